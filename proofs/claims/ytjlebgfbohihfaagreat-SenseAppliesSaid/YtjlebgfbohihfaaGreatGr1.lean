/-
  The code of functions, 1.
-/
import Derived.Test.YtjlebgfbohihfaaGreatAmW
namespace Go.Proofs.YtjlebgfbohihfaaGreat.Am

def F3 : AFun := ⟨2,
 (.seq (.ops [o 4 (.mv (.k (.c (.bool false))))])
 (.seq (.seq (.ops [o 11 (.call 6 []),o 12 (.un .not (.t 11))])
 (.cond (.t 12) (.seq (.ops [o 4 (.mv (.k (.c (.bool false))))])
 .ret)
 .skip))
 (.seq (.ops [o 14 (.mv (.t 0)),o 15 (.mv (.t 1)),o 16 (.call 7 [(.t 14),(.t 15)]),o 13 (.mv (.t 16)),o 17 (.ext 0 (.t 13)),o 18 (.ext 1 (.t 13)),o 19 (.ext 2 (.t 13)),o 6 (.alloc [(.int .i64 0),(.int .i64 0)]),o 5 (.mv (.t 17)),e (.st 2 (.t 6) (.t 18)),o 7 (.mv (.t 19))])
 (.keep [0,1,5,6,7] (.seq (.ops [o 21 (.mv (.t 0)),o 22 (.mv (.t 1)),o 23 (.call 8 [(.t 21),(.t 22)]),o 20 (.mv (.t 23)),o 24 (.ext 0 (.t 20)),o 25 (.ext 1 (.t 20)),o 26 (.ext 2 (.t 20)),o 9 (.alloc [(.int .i64 0),(.int .i64 0)]),o 8 (.mv (.t 24)),e (.st 2 (.t 9) (.t 25)),o 10 (.mv (.t 26))])
 (.keep [5,6,7,8,9,10] (.seq (.ops [o 27 (.mv (.t 5)),o 28 (.mv (.t 8)),o 29 (.bin 0 .eql (.t 27) (.t 28)),o 30 (.mv (.t 29)),⟨(some 31),(.ldn 2 (.t 6)),some (30,true)⟩,⟨(some 32),(.ldn 2 (.t 9)),some (30,true)⟩,⟨(some 33),(.eqa false [(.int .i64),(.int .i64)] (.t 31) (.t 32)),some (30,true)⟩,o 34 (.pick (.t 30) (.t 33) (.k (.c (.bool false)))),o 35 (.mv (.t 34)),⟨(some 36),(.mv (.t 7)),some (35,true)⟩,⟨(some 37),(.mv (.t 10)),some (35,true)⟩,⟨(some 38),(.bin 1 .eql (.t 36) (.t 37)),some (35,true)⟩,o 39 (.pick (.t 35) (.t 38) (.k (.c (.bool false)))),o 4 (.mv (.t 39))])
 .ret))))))),
 [.tmp 4]⟩
def F4 : AFun := ⟨3,
 (.seq (.ops [o 5 (.box (.t 2)),o 6 (.mv (.k (.c (.bool false))))])
 (.seq (.seq (.ops [o 13 (.call 9 []),o 14 (.un .not (.t 13))])
 (.cond (.t 14) (.seq (.ops [o 6 (.mv (.k (.c (.bool false))))])
 .ret)
 .skip))
 (.seq (.ops [o 15 (.mv (.t 0)),o 16 (.mv (.t 1)),o 17 (.call 10 [(.t 15),(.t 16)]),o 7 (.mv (.t 17))])
 (.seq (.ops [o 18 (.fa 0 (.t 5)),o 19 (.ldn 4 (.t 18)),o 20 (.fa 4 (.t 5)),o 21 (.ldn 4 (.t 20)),o 22 (.fa 8 (.t 5)),o 23 (.ldn 4 (.t 22)),o 24 (.mks [(.int .i32 0),(.int .i32 0),(.int .i32 0),(.int .i32 0)] 3 [(0,4,(.t 19)),(4,4,(.t 21)),(8,4,(.t 23))]),o 8 (.mv (.t 24))])
 (.keep [0,1,5,7,8] (.seq (.seq (.ops [o 9 (.mv (ki 0))])
 (.block 0 (.loop [0,1,5,7,8,9] (.seq (.seq (.ops [o 25 (.mv (.t 9)),o 26 (.bin 0 .leq (.t 25) (ki 5))])
 (.cond (.t 26) .skip
 (.exit 0)))
 (.seq (.block 1 (.seq (.ops [o 29 (.mv (ki 0))])
 (.block 2 (.loop [0,1,5,7,8,9,29] (.seq (.ops [o 30 (.bin 0 .lss (.t 29) (ki 4))])
 (.seq (.cond (.t 30) .skip
 (.exit 2))
 (.seq (.block 3 (.seq (.ops [o 31 (.mv (.t 29)),o 10 (.mv (.t 31))])
 (.seq (.ops [o 33 (.mv (.t 0)),o 34 (.mv (.t 1)),o 35 (.mv (.t 9)),o 36 (.mv (.t 8)),o 37 (.mv (.t 10)),o 38 (.slc 4 (.t 36) none (some (.t 37)) none),o 39 (.call 11 [(.t 33),(.t 34),(.t 35),(.t 38)]),o 32 (.mv (.t 39)),o 40 (.ext 0 (.t 32)),o 41 (.ext 1 (.t 32)),o 11 (.alloc [(.int .i32 0),(.int .i32 0),(.int .i32 0),(.int .i32 0)]),e (.st 4 (.t 11) (.t 40)),o 12 (.mv (.t 41))])
 (.keep [0,1,5,7,8,9,10,11,12,29] (.seq (.ops [o 42 (.mv (.t 7)),o 43 (.bin 0 .eql (.t 42) (ki 0)),o 44 (.mv (.t 43)),⟨(some 45),(.mv (.t 10)),some (44,false)⟩,⟨(some 46),(.mv (.t 7)),some (44,false)⟩,⟨(some 47),(.bin 0 .neq (.t 45) (.t 46)),some (44,false)⟩,o 48 (.pick (.t 44) (.k (.c (.bool true))) (.t 47)),o 49 (.mv (.t 48)),⟨(some 50),(.mv (.t 9)),some (49,false)⟩,⟨(some 51),(.bin 0 .lss (.t 50) (ki 1)),some (49,false)⟩,o 52 (.pick (.t 49) (.k (.c (.bool true))) (.t 51)),o 53 (.mv (.t 52)),⟨(some 54),(.mv (.t 9)),some (53,false)⟩,⟨(some 55),(.bin 0 .gtr (.t 54) (ki 4)),some (53,false)⟩,o 56 (.pick (.t 53) (.k (.c (.bool true))) (.t 55))])
 (.keep [0,1,5,7,8,9,11,12,29,56] (.cond (.t 56) (.seq (.ops [o 57 (.ldn 4 (.t 11)),o 58 (.agg [(.int .i32 0),(.int .i32 0),(.int .i32 0),(.int .i32 0)] []),o 59 (.eqa true [(.int .i32),(.int .i32),(.int .i32),(.int .i32)] (.t 57) (.t 58)),o 60 (.mv (.t 59)),⟨(some 61),(.mv (.t 12)),some (60,false)⟩,⟨(some 62),(.bin 0 .neq (.t 61) (ki 2)),some (60,false)⟩,o 63 (.pick (.t 60) (.k (.c (.bool true))) (.t 62))])
 (.keep [0,1,5,7,8,9,29,63] (.cond (.t 63) (.seq (.ops [o 6 (.mv (.k (.c (.bool false))))])
 .ret)
 .skip)))
 (.seq (.dops [.op 0 (o 64 (.mv (.t 12))),.op 1 (o 65 (.bin 0 .neq (.t 64) (ki 0))),.op 2 (o 66 (.mv (.t 65))),.op 3 (⟨(some 67),(.ldn 4 (.t 11)),some (66,false)⟩),.op 4 (⟨(some 68),(.mv (.t 0)),some (66,false)⟩),.op 5 (⟨(some 69),(.mv (.t 1)),some (66,false)⟩),.op 6 (⟨(some 70),(.mv (.t 9)),some (66,false)⟩),.op 7 (⟨(some 71),(.fa 0 (.t 5)),some (66,false)⟩),.op 9 (⟨(some 73),(.fa 4 (.t 5)),some (66,false)⟩),.op 11 (⟨(some 75),(.fa 8 (.t 5)),some (66,false)⟩),.op 8 (⟨(some 72),(.ldn 4 (.t 71)),some (66,false)⟩),.op 10 (⟨(some 74),(.ldn 4 (.t 73)),some (66,false)⟩),.op 12 (⟨(some 76),(.ldn 4 (.t 75)),some (66,false)⟩),.eff 13 (⟨(some 77),(.call 12 [(.t 68),(.t 69),(.t 70),(.t 72),(.t 74),(.t 76)]),some (66,false)⟩) [⟨(some 67),(.ldn 4 (.t 11)),some (66,false)⟩],.op 14 (⟨(some 78),(.eqa true [(.int .i32),(.int .i32),(.int .i32),(.int .i32)] (.t 67) (.t 77)),some (66,false)⟩),.op 15 (o 79 (.pick (.t 66) (.k (.c (.bool true))) (.t 78)))])
 (.keep [0,1,5,7,8,9,29,79] (.cond (.t 79) (.seq (.ops [o 6 (.mv (.k (.c (.bool false))))])
 .ret)
 .skip))))))))))
 (.ops [o 80 (.bin 0 .add (.t 29) (ki 1)),o 29 (.mv (.t 80))]))))))))
 (.ops [o 27 (.mv (.t 9)),o 28 (.bin 0 .add (.t 27) (ki 1)),o 9 (.mv (.t 28))]))))))
 (.seq (.ops [o 6 (.mv (.k (.c (.bool true))))])
 .ret))))))),
 [.tmp 6]⟩
def F5 : AFun := ⟨3,
 (.seq (.ops [o 6 (.mv (.k (.c (.bool false))))])
 (.seq (.seq (.ops [o 9 (.call 9 []),o 10 (.un .not (.t 9))])
 (.cond (.t 10) (.seq (.ops [o 6 (.mv (.k (.c (.bool false))))])
 .ret)
 .skip))
 (.seq (.ops [o 12 (.mv (.t 0)),o 13 (.mv (.t 1)),o 14 (.mv (.t 2)),o 15 (.call 13 [(.t 12),(.t 13),(.t 14)]),o 11 (.mv (.t 15)),o 16 (.ext 0 (.t 11)),o 17 (.ext 1 (.t 11)),o 7 (.mv (.t 16)),o 8 (.mv (.t 17))])
 (.keep [0,1,2,7,8] (.seq (.seq (.ops [o 18 (.mv (.t 0)),o 19 (.bin 0 .lss (.t 18) (ki 1)),o 20 (.mv (.t 19)),⟨(some 21),(.mv (.t 0)),some (20,false)⟩,⟨(some 22),(.bin 0 .gtr (.t 21) (ki 3)),some (20,false)⟩,o 23 (.pick (.t 20) (.k (.c (.bool true))) (.t 22)),o 24 (.mv (.t 23)),⟨(some 25),(.mv (.t 1)),some (24,false)⟩,⟨(some 26),(.bin 0 .lss (.t 25) (ki 1)),some (24,false)⟩,o 27 (.pick (.t 24) (.k (.c (.bool true))) (.t 26)),o 28 (.mv (.t 27)),⟨(some 29),(.mv (.t 1)),some (28,false)⟩,⟨(some 30),(.bin 0 .gtr (.t 29) (ki 3)),some (28,false)⟩,o 31 (.pick (.t 28) (.k (.c (.bool true))) (.t 30))])
 (.keep [0,1,2,7,8,31] (.cond (.t 31) (.seq (.ops [o 32 (.mv (.t 7)),o 33 (.bin 0 .eql (.t 32) (.k (.c (.int .i32 0)))),o 34 (.mv (.t 33)),⟨(some 35),(.mv (.t 8)),some (34,true)⟩,⟨(some 36),(.bin 0 .eql (.t 35) (ki 2)),some (34,true)⟩,o 37 (.pick (.t 34) (.t 36) (.k (.c (.bool false)))),o 6 (.mv (.t 37))])
 .ret)
 .skip)))
 (.seq (.ops [o 38 (.mv (.t 8)),o 39 (.bin 0 .eql (.t 38) (ki 0)),o 40 (.mv (.t 39)),⟨(some 41),(.mv (.t 7)),some (40,true)⟩,⟨(some 42),(.mv (.t 0)),some (40,true)⟩,⟨(some 43),(.mv (.t 1)),some (40,true)⟩,⟨(some 44),(.mv (.t 2)),some (40,true)⟩,⟨(some 45),(.call 14 [(.t 42),(.t 43),(.t 44)]),some (40,true)⟩,⟨(some 46),(.bin 0 .eql (.t 41) (.t 45)),some (40,true)⟩,o 47 (.pick (.t 40) (.t 46) (.k (.c (.bool false)))),o 6 (.mv (.t 47))])
 .ret)))))),
 [.tmp 6]⟩
def F6 : AFun := ⟨0,
 (.seq (.ops [o 0 (.mv (.k (.c (.bool false))))])
 (.seq (.ops [o 8 (.call 15 [(.k (.c (.str (bs [118,111,105,100,32,109,97,105,110,40,41,123,103,108,95,80,111,115,105,116,105,111,110,61,118,101,99,52,40,49,46,48,41,59,125]))))]),o 7 (.mv (.t 8)),o 9 (.ext 0 (.t 7)),o 10 (.ext 1 (.t 7)),o 1 (.alloc [.nilslice]),e (.st 1 (.t 1) (.t 9)),o 2 (.mv (.t 10))])
 (.seq (.ops [o 12 (.ldn 1 (.t 1)),o 13 (.call 16 [(.t 12),(ki 1)]),o 11 (.mv (.t 13)),o 14 (.ext 0 (.t 11)),o 15 (.ext 1 (.t 11)),o 3 (.alloc [.nilslice,(.int .i64 0),.nilslice,.nilslice,.nilslice,.nilslice,.nilslice,.nilslice,(.int .i64 0)]),o 4 (.alloc [(.int .i64 0),(.int .i64 0)]),e (.st 9 (.t 3) (.t 14)),e (.st 2 (.t 4) (.t 15))])
 (.keep [1,2,3,4] (.seq (.ops [o 17 (.ldn 1 (.t 1)),o 18 (.call 16 [(.t 17),(ki 2)]),o 16 (.mv (.t 18)),o 19 (.ext 0 (.t 16)),o 20 (.ext 1 (.t 16)),o 5 (.alloc [.nilslice,(.int .i64 0),.nilslice,.nilslice,.nilslice,.nilslice,.nilslice,.nilslice,(.int .i64 0)]),o 6 (.alloc [(.int .i64 0),(.int .i64 0)]),e (.st 9 (.t 5) (.t 19)),e (.st 2 (.t 6) (.t 20))])
 (.seq (.ops [o 21 (.mv (.t 2)),o 22 (.mv (.t 21)),⟨(some 23),(.ldn 2 (.t 4)),some (22,true)⟩,⟨(some 24),(.agg [(.int .i64 0),(.int .i64 0)] []),some (22,true)⟩,⟨(some 25),(.eqa false [(.int .i64),(.int .i64)] (.t 23) (.t 24)),some (22,true)⟩,o 26 (.pick (.t 22) (.t 25) (.k (.c (.bool false)))),o 27 (.mv (.t 26)),⟨(some 28),(.fa 8 (.t 3)),some (27,true)⟩,⟨(some 29),(.ld (.t 28)),some (27,true)⟩,⟨(some 30),(.bin 0 .eql (.t 29) (ki 1)),some (27,true)⟩,o 31 (.pick (.t 27) (.t 30) (.k (.c (.bool false)))),o 32 (.mv (.t 31)),⟨(some 33),(.fa 2 (.t 3)),some (32,true)⟩,⟨(some 34),(.ld (.t 33)),some (32,true)⟩,⟨(some 35),(.len 1 (.t 34)),some (32,true)⟩,⟨(some 36),(.fa 0 (.t 1)),some (32,true)⟩,⟨(some 37),(.ld (.t 36)),some (32,true)⟩,⟨(some 38),(.len 1 (.t 37)),some (32,true)⟩,⟨(some 39),(.bin 0 .eql (.t 35) (.t 38)),some (32,true)⟩,o 40 (.pick (.t 32) (.t 39) (.k (.c (.bool false)))),o 41 (.mv (.t 40)),⟨(some 42),(.fa 0 (.t 6)),some (41,true)⟩,⟨(some 43),(.ld (.t 42)),some (41,true)⟩,⟨(some 44),(.bin 0 .eql (.t 43) (ki 240)),some (41,true)⟩,o 45 (.pick (.t 41) (.t 44) (.k (.c (.bool false)))),o 0 (.mv (.t 45))])
 .ret)))))),
 [.tmp 0]⟩
def F7 : AFun := ⟨2,
 (.seq (.ops [o 4 (.mv (ki 0)),o 5 (.alloc [(.int .i64 0),(.int .i64 0)]),o 6 (.mv (.k (.c (.bool false))))])
 (.seq (.ops [o 7 (.mv (.f 17))])
 (.seq (.block 0 (.seq (.ops [o 9 (.mv (.t 1)),o 10 (.bin 0 .eql (.t 9) (ki 1)),o 11 (.mv (.t 10)),⟨(some 12),(.mv (.t 0)),some (11,true)⟩,⟨(some 13),(.bin 0 .eql (.t 12) (.k (.c (.str (bs [103,108,95,80,111,115,105,116,105,111,110]))))),some (11,true)⟩,o 14 (.pick (.t 11) (.t 13) (.k (.c (.bool false)))),o 8 (.mv (.t 14))])
 (.cond (.t 8) (.seq (.ops [o 15 (.mv (.t 7)),o 16 (.callv (.t 15) [(ki 4)]),o 4 (.mv (ki (-2))),e (.st 2 (.t 5) (.t 16)),o 6 (.mv (.k (.c (.bool true))))])
 .ret)
 (.seq (.ops [o 18 (.mv (.t 1)),o 19 (.bin 0 .eql (.t 18) (ki 1)),o 20 (.mv (.t 19)),⟨(some 21),(.mv (.t 0)),some (20,true)⟩,⟨(some 22),(.bin 0 .eql (.t 21) (.k (.c (.str (bs [103,108,95,80,111,105,110,116,83,105,122,101]))))),some (20,true)⟩,o 23 (.pick (.t 20) (.t 22) (.k (.c (.bool false)))),o 17 (.mv (.t 23))])
 (.keep [0,1,5,7,17] (.cond (.t 17) (.seq (.ops [o 24 (.mv (.t 7)),o 25 (.callv (.t 24) [(ki 1)]),o 4 (.mv (ki (-3))),e (.st 2 (.t 5) (.t 25)),o 6 (.mv (.k (.c (.bool true))))])
 .ret)
 (.seq (.ops [o 27 (.mv (.t 1)),o 28 (.bin 0 .eql (.t 27) (ki 2)),o 29 (.mv (.t 28)),⟨(some 30),(.mv (.t 0)),some (29,true)⟩,⟨(some 31),(.bin 0 .eql (.t 30) (.k (.c (.str (bs [103,108,95,70,114,97,103,67,111,111,114,100]))))),some (29,true)⟩,o 32 (.pick (.t 29) (.t 31) (.k (.c (.bool false)))),o 26 (.mv (.t 32))])
 (.cond (.t 26) (.seq (.ops [o 33 (.mv (.t 7)),o 34 (.callv (.t 33) [(ki 4)]),o 4 (.mv (ki (-4))),e (.st 2 (.t 5) (.t 34)),o 6 (.mv (.k (.c (.bool true))))])
 .ret)
 (.seq (.ops [o 36 (.mv (.t 1)),o 37 (.bin 0 .eql (.t 36) (ki 2)),o 38 (.mv (.t 37)),⟨(some 39),(.mv (.t 0)),some (38,true)⟩,⟨(some 40),(.bin 0 .eql (.t 39) (.k (.c (.str (bs [103,108,95,70,114,111,110,116,70,97,99,105,110,103]))))),some (38,true)⟩,o 41 (.pick (.t 38) (.t 40) (.k (.c (.bool false)))),o 35 (.mv (.t 41))])
 (.keep [0,1,5,7,35] (.cond (.t 35) (.seq (.ops [o 42 (.call 18 [(ki 3)]),o 4 (.mv (ki (-5))),e (.st 2 (.t 5) (.t 42)),o 6 (.mv (.k (.c (.bool true))))])
 .ret)
 (.seq (.ops [o 44 (.mv (.t 1)),o 45 (.bin 0 .eql (.t 44) (ki 2)),o 46 (.mv (.t 45)),⟨(some 47),(.mv (.t 0)),some (46,true)⟩,⟨(some 48),(.bin 0 .eql (.t 47) (.k (.c (.str (bs [103,108,95,80,111,105,110,116,67,111,111,114,100]))))),some (46,true)⟩,o 49 (.pick (.t 46) (.t 48) (.k (.c (.bool false)))),o 43 (.mv (.t 49))])
 (.cond (.t 43) (.seq (.ops [o 50 (.mv (.t 7)),o 51 (.callv (.t 50) [(ki 2)]),o 4 (.mv (ki (-6))),e (.st 2 (.t 5) (.t 51)),o 6 (.mv (.k (.c (.bool true))))])
 .ret)
 (.seq (.ops [o 53 (.mv (.t 1)),o 54 (.bin 0 .eql (.t 53) (ki 2)),o 55 (.mv (.t 54)),⟨(some 56),(.mv (.t 0)),some (55,true)⟩,⟨(some 57),(.bin 0 .eql (.t 56) (.k (.c (.str (bs [103,108,95,70,114,97,103,67,111,108,111,114]))))),some (55,true)⟩,o 58 (.pick (.t 55) (.t 57) (.k (.c (.bool false)))),o 52 (.mv (.t 58))])
 (.keep [5,7,52] (.cond (.t 52) (.seq (.ops [o 59 (.mv (.t 7)),o 60 (.callv (.t 59) [(ki 4)]),o 4 (.mv (ki (-7))),e (.st 2 (.t 5) (.t 60)),o 6 (.mv (.k (.c (.bool true))))])
 .ret)
 .skip))))))))))))))))
 (.keep [5] (.seq (.ops [o 61 (.agg [(.int .i64 0),(.int .i64 0)] []),o 4 (.mv (ki 0)),e (.st 2 (.t 5) (.t 61)),o 6 (.mv (.k (.c (.bool false))))])
 .ret))))),
 [.tmp 4,.celln 5 2,.tmp 6]⟩
def F8 : AFun := ⟨2,
 (.seq (.ops [o 4 (.mv (ki 0)),o 5 (.alloc [(.int .i64 0),(.int .i64 0)]),o 6 (.mv (.k (.c (.bool false))))])
 (.seq (.ops [o 9 (.agg [(.int .i64 0),(.int .i64 0)] [(0,1,(ki 1)),(1,1,(ki 4))]),o 10 (.agg [(.int .i64 0),(.int .i64 0)] [(0,1,(ki 1)),(1,1,(ki 1))]),o 7 (.alloc [(.int .i64 0),(.int .i64 0)]),o 8 (.alloc [(.int .i64 0),(.int .i64 0)]),e (.st 2 (.t 7) (.t 9)),e (.st 2 (.t 8) (.t 10))])
 (.seq (.block 0 (.seq (.ops [o 12 (.mv (.t 1)),o 13 (.bin 0 .eql (.t 12) (ki 1)),o 14 (.mv (.t 13)),⟨(some 15),(.mv (.t 0)),some (14,true)⟩,⟨(some 16),(.bin 0 .eql (.t 15) (.k (.c (.str (bs [103,108,95,80,111,115,105,116,105,111,110]))))),some (14,true)⟩,o 17 (.pick (.t 14) (.t 16) (.k (.c (.bool false)))),o 11 (.mv (.t 17))])
 (.keep [0,1,5,7,8,11] (.cond (.t 11) (.seq (.dops [.op 0 (o 18 (.ldn 2 (.t 7))),.op 1 (o 4 (.mv (ki (-2)))),.eff 2 (e (.st 2 (.t 5) (.t 18))) [],.op 3 (o 6 (.mv (.k (.c (.bool true)))))])
 .ret)
 (.seq (.ops [o 20 (.mv (.t 1)),o 21 (.bin 0 .eql (.t 20) (ki 1)),o 22 (.mv (.t 21)),⟨(some 23),(.mv (.t 0)),some (22,true)⟩,⟨(some 24),(.bin 0 .eql (.t 23) (.k (.c (.str (bs [103,108,95,80,111,105,110,116,83,105,122,101]))))),some (22,true)⟩,o 25 (.pick (.t 22) (.t 24) (.k (.c (.bool false)))),o 19 (.mv (.t 25))])
 (.cond (.t 19) (.seq (.dops [.op 0 (o 26 (.ldn 2 (.t 8))),.op 1 (o 4 (.mv (ki (-3)))),.eff 2 (e (.st 2 (.t 5) (.t 26))) [],.op 3 (o 6 (.mv (.k (.c (.bool true)))))])
 .ret)
 (.seq (.ops [o 28 (.mv (.t 1)),o 29 (.bin 0 .eql (.t 28) (ki 2)),o 30 (.mv (.t 29)),⟨(some 31),(.mv (.t 0)),some (30,true)⟩,⟨(some 32),(.bin 0 .eql (.t 31) (.k (.c (.str (bs [103,108,95,70,114,97,103,67,111,111,114,100]))))),some (30,true)⟩,o 33 (.pick (.t 30) (.t 32) (.k (.c (.bool false)))),o 27 (.mv (.t 33))])
 (.keep [0,1,5,7,27] (.cond (.t 27) (.seq (.dops [.op 0 (o 34 (.ldn 2 (.t 7))),.op 1 (o 4 (.mv (ki (-4)))),.eff 2 (e (.st 2 (.t 5) (.t 34))) [],.op 3 (o 6 (.mv (.k (.c (.bool true)))))])
 .ret)
 (.seq (.ops [o 36 (.mv (.t 1)),o 37 (.bin 0 .eql (.t 36) (ki 2)),o 38 (.mv (.t 37)),⟨(some 39),(.mv (.t 0)),some (38,true)⟩,⟨(some 40),(.bin 0 .eql (.t 39) (.k (.c (.str (bs [103,108,95,70,114,111,110,116,70,97,99,105,110,103]))))),some (38,true)⟩,o 41 (.pick (.t 38) (.t 40) (.k (.c (.bool false)))),o 35 (.mv (.t 41))])
 (.cond (.t 35) (.seq (.ops [o 42 (.agg [(.int .i64 0),(.int .i64 0)] [(0,1,(ki 3)),(1,1,(ki 1))]),o 4 (.mv (ki (-5))),e (.st 2 (.t 5) (.t 42)),o 6 (.mv (.k (.c (.bool true))))])
 .ret)
 (.seq (.ops [o 44 (.mv (.t 1)),o 45 (.bin 0 .eql (.t 44) (ki 2)),o 46 (.mv (.t 45)),⟨(some 47),(.mv (.t 0)),some (46,true)⟩,⟨(some 48),(.bin 0 .eql (.t 47) (.k (.c (.str (bs [103,108,95,80,111,105,110,116,67,111,111,114,100]))))),some (46,true)⟩,o 49 (.pick (.t 46) (.t 48) (.k (.c (.bool false)))),o 43 (.mv (.t 49))])
 (.keep [0,1,5,7,43] (.cond (.t 43) (.seq (.ops [o 50 (.agg [(.int .i64 0),(.int .i64 0)] [(0,1,(ki 1)),(1,1,(ki 2))]),o 4 (.mv (ki (-6))),e (.st 2 (.t 5) (.t 50)),o 6 (.mv (.k (.c (.bool true))))])
 .ret)
 (.seq (.ops [o 52 (.mv (.t 1)),o 53 (.bin 0 .eql (.t 52) (ki 2)),o 54 (.mv (.t 53)),⟨(some 55),(.mv (.t 0)),some (54,true)⟩,⟨(some 56),(.bin 0 .eql (.t 55) (.k (.c (.str (bs [103,108,95,70,114,97,103,67,111,108,111,114]))))),some (54,true)⟩,o 57 (.pick (.t 54) (.t 56) (.k (.c (.bool false)))),o 51 (.mv (.t 57))])
 (.cond (.t 51) (.seq (.dops [.op 0 (o 58 (.ldn 2 (.t 7))),.op 1 (o 4 (.mv (ki (-7)))),.eff 2 (e (.st 2 (.t 5) (.t 58))) [],.op 3 (o 6 (.mv (.k (.c (.bool true)))))])
 .ret)
 .skip))))))))))))))))
 (.keep [5] (.seq (.ops [o 59 (.agg [(.int .i64 0),(.int .i64 0)] []),o 4 (.mv (ki 0)),e (.st 2 (.t 5) (.t 59)),o 6 (.mv (.k (.c (.bool false))))])
 .ret))))),
 [.tmp 4,.celln 5 2,.tmp 6]⟩
def F9 : AFun := ⟨0,
 (.seq (.ops [o 0 (.mv (.k (.c (.bool false))))])
 (.seq (.ops [o 6 (.call 19 [(.k (.c (.str (bs [118,111,105,100,32,109,97,105,110,40,41,123,103,108,95,70,114,97,103,67,111,108,111,114,61,118,101,99,52,40,49,46,48,44,50,46,48,44,51,46,48,44,52,46,48,41,46,119,122,121,120,59,125])))),(ki 2)]),o 5 (.mv (.t 6)),o 7 (.ext 0 (.t 5)),o 8 (.ext 1 (.t 5)),o 1 (.alloc [.nilslice,(.int .i64 0),.nilslice,.nilslice,.nilslice,.nilslice,.nilslice,.nilslice,(.int .i64 0)]),e (.st 9 (.t 1) (.t 7)),o 2 (.mv (.t 8))])
 (.seq (.seq (.ops [o 9 (.mv (.t 2)),o 10 (.un .not (.t 9))])
 (.cond (.t 10) (.seq (.ops [o 0 (.mv (.k (.c (.bool false))))])
 .ret)
 .skip))
 (.seq (.ops [o 12 (.ldn 9 (.t 1)),o 13 (.agg [.nilslice,.nilslice,.nilslice,(.int .i32 0),(.int .i32 0),(.int .i32 0),(.int .i32 0),(.bool false),(.int .i32 0),(.int .i32 0),(.int .i32 0),(.int .i32 0),.nilslice] []),o 14 (.call 20 [(.t 12),(.t 13)]),o 11 (.mv (.t 14)),o 15 (.ext 0 (.t 11)),o 16 (.ext 1 (.t 11)),o 3 (.alloc [(.int .i32 0),(.int .i32 0),(.int .i32 0),(.int .i32 0),(.int .i32 0),.nilslice,(.int .i32 0),(.int .i32 0),(.int .i32 0),(.int .i32 0),(.bool false)]),e (.st 11 (.t 3) (.t 15)),o 4 (.mv (.t 16))])
 (.keep [3,4] (.seq (.ops [o 17 (.mv (.t 4)),o 18 (.bin 0 .eql (.t 17) (ki 0)),o 19 (.mv (.t 18)),⟨(some 20),(.fa 6 (.t 3)),some (19,true)⟩,⟨(some 21),(.ldn 4 (.t 20)),some (19,true)⟩,⟨(some 22),(.agg [(.int .i32 0),(.int .i32 0),(.int .i32 0),(.int .i32 0)] [(0,1,(.k (.c (.int .i32 262144)))),(1,1,(.k (.c (.int .i32 196608)))),(2,1,(.k (.c (.int .i32 131072)))),(3,1,(.k (.c (.int .i32 65536))))]),some (19,true)⟩,⟨(some 23),(.eqa false [(.int .i32),(.int .i32),(.int .i32),(.int .i32)] (.t 21) (.t 22)),some (19,true)⟩,o 24 (.pick (.t 19) (.t 23) (.k (.c (.bool false)))),o 0 (.mv (.t 24))])
 .ret)))))),
 [.tmp 0]⟩
def F10 : AFun := ⟨2,
 (.seq (.ops [o 4 (.mv (ki 0))])
 (.seq (.seq (.ops [o 5 (.mv (.t 1)),o 6 (.bin 0 .eql (.t 5) (ki 3))])
 (.cond (.t 6) (.seq (.seq (.ops [o 7 (.mv (.t 0)),o 8 (.bin 0 .eql (.t 7) (ki 33)),o 9 (.mv (.t 8)),⟨(some 10),(.mv (.t 0)),some (9,false)⟩,⟨(some 11),(.bin 0 .eql (.t 10) (ki 34)),some (9,false)⟩,o 12 (.pick (.t 9) (.k (.c (.bool true))) (.t 11))])
 (.cond (.t 12) (.seq (.ops [o 4 (.mv (ki 2))])
 .ret)
 .skip))
 (.seq (.seq (.ops [o 13 (.mv (.t 0)),o 14 (.bin 0 .eql (.t 13) (ki 35))])
 (.cond (.t 14) (.seq (.ops [o 4 (.mv (ki 1))])
 .ret)
 .skip))
 (.keep [] (.seq (.ops [o 4 (.mv (ki 0))])
 .ret))))
 .skip))
 (.seq (.seq (.ops [o 15 (.mv (.t 0)),o 16 (.bin 0 .eql (.t 15) (ki 28)),o 17 (.mv (.t 16)),⟨(some 18),(.mv (.t 1)),some (17,true)⟩,⟨(some 19),(.bin 0 .eql (.t 18) (ki 1)),some (17,true)⟩,⟨(some 20),(.mv (.t 19)),some (17,true)⟩,⟨(some 21),(.mv (.t 1)),some (20,false)⟩,⟨(some 22),(.bin 0 .eql (.t 21) (ki 2)),some (20,false)⟩,⟨(some 23),(.pick (.t 20) (.k (.c (.bool true))) (.t 22)),some (17,true)⟩,o 24 (.pick (.t 17) (.t 23) (.k (.c (.bool false))))])
 (.keep [0,1,24] (.cond (.t 24) (.seq (.ops [o 4 (.mv (ki 1))])
 .ret)
 .skip)))
 (.seq (.seq (.ops [o 25 (.mv (.t 0)),o 26 (.bin 0 .geq (.t 25) (ki 24)),o 27 (.mv (.t 26)),⟨(some 28),(.mv (.t 0)),some (27,true)⟩,⟨(some 29),(.bin 0 .leq (.t 28) (ki 34)),some (27,true)⟩,o 30 (.pick (.t 27) (.t 29) (.k (.c (.bool false)))),o 31 (.mv (.t 30)),⟨(some 32),(.mv (.t 1)),some (31,true)⟩,⟨(some 33),(.bin 0 .eql (.t 32) (ki 1)),some (31,true)⟩,⟨(some 34),(.mv (.t 33)),some (31,true)⟩,⟨(some 35),(.mv (.t 1)),some (34,false)⟩,⟨(some 36),(.bin 0 .eql (.t 35) (ki 2)),some (34,false)⟩,⟨(some 37),(.pick (.t 34) (.k (.c (.bool true))) (.t 36)),some (31,true)⟩,o 38 (.pick (.t 31) (.t 37) (.k (.c (.bool false))))])
 (.keep [0,1,38] (.cond (.t 38) (.seq (.ops [o 4 (.mv (ki 2))])
 .ret)
 .skip)))
 (.seq (.seq (.ops [o 39 (.mv (.t 1)),o 40 (.bin 0 .neq (.t 39) (ki 1)),o 41 (.mv (.t 40)),⟨(some 42),(.mv (.t 0)),some (41,false)⟩,⟨(some 43),(.bin 0 .lss (.t 42) (ki 1)),some (41,false)⟩,o 44 (.pick (.t 41) (.k (.c (.bool true))) (.t 43)),o 45 (.mv (.t 44)),⟨(some 46),(.mv (.t 0)),some (45,false)⟩,⟨(some 47),(.bin 0 .gtr (.t 46) (ki 21)),some (45,false)⟩,o 48 (.pick (.t 45) (.k (.c (.bool true))) (.t 47))])
 (.cond (.t 48) (.seq (.ops [o 4 (.mv (ki 0))])
 .ret)
 .skip))
 (.keep [0] (.seq (.seq (.ops [o 49 (.mv (.t 0)),o 50 (.bin 0 .leq (.t 49) (ki 11)),o 51 (.mv (.t 50)),⟨(some 52),(.mv (.t 0)),some (51,false)⟩,⟨(some 53),(.bin 0 .eql (.t 52) (ki 20)),some (51,false)⟩,o 54 (.pick (.t 51) (.k (.c (.bool true))) (.t 53))])
 (.cond (.t 54) (.seq (.ops [o 4 (.mv (ki 1))])
 .ret)
 .skip))
 (.seq (.seq (.ops [o 55 (.mv (.t 0)),o 56 (.bin 0 .eql (.t 55) (ki 17)),o 57 (.mv (.t 56)),⟨(some 58),(.mv (.t 0)),some (57,false)⟩,⟨(some 59),(.bin 0 .eql (.t 58) (ki 18)),some (57,false)⟩,o 60 (.pick (.t 57) (.k (.c (.bool true))) (.t 59))])
 (.cond (.t 60) (.seq (.ops [o 4 (.mv (ki 3))])
 .ret)
 .skip))
 (.keep [] (.seq (.ops [o 4 (.mv (ki 2))])
 .ret)))))))))),
 [.tmp 4]⟩
def F11 : AFun := ⟨4,
 (.seq (.ops [o 4 (.box (.t 0)),o 8 (.alloc [(.int .i32 0),(.int .i32 0),(.int .i32 0),(.int .i32 0)]),o 9 (.mv (ki 0))])
 (.seq (.seq (.ops [o 17 (.ld (.t 4)),o 18 (.call 21 [(.t 17)]),o 10 (.mv (.t 18))])
 (.seq (.ops [o 19 (.mv (.t 10)),o 20 (.bin 0 .eql (.t 19) (ki 0)),o 21 (.mv (.t 20)),⟨(some 22),(.ld (.t 4)),some (21,false)⟩,⟨(some 23),(.mv (.t 1)),some (21,false)⟩,⟨(some 24),(.call 22 [(.t 22),(.t 23)]),some (21,false)⟩,⟨(some 25),(.un .not (.t 24)),some (21,false)⟩,o 26 (.pick (.t 21) (.k (.c (.bool true))) (.t 25)),o 27 (.mv (.t 26)),⟨(some 28),(.mv (.t 2)),some (27,false)⟩,⟨(some 29),(.bin 0 .lss (.t 28) (ki 1)),some (27,false)⟩,o 30 (.pick (.t 27) (.k (.c (.bool true))) (.t 29)),o 31 (.mv (.t 30)),⟨(some 32),(.mv (.t 2)),some (31,false)⟩,⟨(some 33),(.bin 0 .gtr (.t 32) (ki 4)),some (31,false)⟩,o 34 (.pick (.t 31) (.k (.c (.bool true))) (.t 33)),o 35 (.mv (.t 34)),⟨(some 36),(.mv (.t 3)),some (35,false)⟩,⟨(some 37),(.len 1 (.t 36)),some (35,false)⟩,⟨(some 38),(.mv (.t 10)),some (35,false)⟩,⟨(some 39),(.bin 0 .neq (.t 37) (.t 38)),some (35,false)⟩,o 40 (.pick (.t 35) (.k (.c (.bool true))) (.t 39))])
 (.keep [1,2,3,4,8,40] (.cond (.t 40) (.seq (.ops [o 41 (.agg [(.int .i32 0),(.int .i32 0),(.int .i32 0),(.int .i32 0)] []),e (.st 4 (.t 8) (.t 41)),o 9 (.mv (ki 2))])
 .ret)
 .skip))))
 (.seq (.ops [o 42 (.mv (.t 3)),o 43 (.ixa 4 (.t 42) (ki 0)),o 44 (.ldn 4 (.t 43)),o 11 (.alloc [(.int .i32 0),(.int .i32 0),(.int .i32 0),(.int .i32 0)]),e (.st 4 (.t 11) (.t 44))])
 (.seq (.ops [o 12 (.alloc [(.int .i32 0),(.int .i32 0),(.int .i32 0),(.int .i32 0)]),o 13 (.alloc [(.int .i32 0),(.int .i32 0),(.int .i32 0),(.int .i32 0)])])
 (.keep [1,2,3,4,8,11,12,13] (.seq (.seq (.ops [o 45 (.mv (.t 3)),o 46 (.len 1 (.t 45)),o 47 (.bin 0 .gtr (.t 46) (ki 1))])
 (.cond (.t 47) (.ops [o 48 (.mv (.t 3)),o 49 (.ixa 4 (.t 48) (ki 1)),o 50 (.ldn 4 (.t 49)),e (.st 4 (.t 12) (.t 50))])
 .skip))
 (.keep [1,2,3,4,8,11,12,13] (.seq (.seq (.ops [o 51 (.mv (.t 3)),o 52 (.len 1 (.t 51)),o 53 (.bin 0 .gtr (.t 52) (ki 2))])
 (.cond (.t 53) (.ops [o 54 (.mv (.t 3)),o 55 (.ixa 4 (.t 54) (ki 2)),o 56 (.ldn 4 (.t 55)),e (.st 4 (.t 13) (.t 56))])
 .skip))
 (.keep [1,2,4,8,11,12,13] (.seq (.seq (.ops [o 57 (.ld (.t 4))])
 (.block 0 (.seq (.ops [o 59 (.bin 0 .eql (.t 57) (ki 29)),o 58 (.mv (.t 59))])
 (.cond (.t 58) (.seq (.ops [o 60 (.ixp 4 1 (.t 11) (ki 0)),o 61 (.ld (.t 60)),o 62 (.ixp 4 1 (.t 12) (ki 0)),o 63 (.ld (.t 62)),o 64 (.bin 0 .lss (.t 61) (.t 63)),o 65 (.call 23 [(.t 64)]),o 66 (.agg [(.int .i32 0),(.int .i32 0),(.int .i32 0),(.int .i32 0)] [(0,1,(.t 65))]),e (.st 4 (.t 8) (.t 66)),o 9 (.mv (ki 0))])
 .ret)
 (.seq (.ops [o 68 (.bin 0 .eql (.t 57) (ki 30)),o 67 (.mv (.t 68))])
 (.cond (.t 67) (.seq (.ops [o 69 (.ixp 4 1 (.t 11) (ki 0)),o 70 (.ld (.t 69)),o 71 (.ixp 4 1 (.t 12) (ki 0)),o 72 (.ld (.t 71)),o 73 (.bin 0 .gtr (.t 70) (.t 72)),o 74 (.call 23 [(.t 73)]),o 75 (.agg [(.int .i32 0),(.int .i32 0),(.int .i32 0),(.int .i32 0)] [(0,1,(.t 74))]),e (.st 4 (.t 8) (.t 75)),o 9 (.mv (ki 0))])
 .ret)
 (.seq (.ops [o 77 (.bin 0 .eql (.t 57) (ki 31)),o 76 (.mv (.t 77))])
 (.cond (.t 76) (.seq (.ops [o 78 (.ixp 4 1 (.t 11) (ki 0)),o 79 (.ld (.t 78)),o 80 (.ixp 4 1 (.t 12) (ki 0)),o 81 (.ld (.t 80)),o 82 (.bin 0 .leq (.t 79) (.t 81)),o 83 (.call 23 [(.t 82)]),o 84 (.agg [(.int .i32 0),(.int .i32 0),(.int .i32 0),(.int .i32 0)] [(0,1,(.t 83))]),e (.st 4 (.t 8) (.t 84)),o 9 (.mv (ki 0))])
 .ret)
 (.seq (.ops [o 86 (.bin 0 .eql (.t 57) (ki 32)),o 85 (.mv (.t 86))])
 (.keep [1,2,4,8,11,12,13,57,85] (.cond (.t 85) (.seq (.ops [o 87 (.ixp 4 1 (.t 11) (ki 0)),o 88 (.ld (.t 87)),o 89 (.ixp 4 1 (.t 12) (ki 0)),o 90 (.ld (.t 89)),o 91 (.bin 0 .geq (.t 88) (.t 90)),o 92 (.call 23 [(.t 91)]),o 93 (.agg [(.int .i32 0),(.int .i32 0),(.int .i32 0),(.int .i32 0)] [(0,1,(.t 92))]),e (.st 4 (.t 8) (.t 93)),o 9 (.mv (ki 0))])
 .ret)
 (.seq (.ops [o 95 (.bin 0 .eql (.t 57) (ki 33)),o 94 (.mv (.t 95))])
 (.cond (.t 94) (.seq (.ops [o 96 (.mv (.t 2)),o 97 (.ldn 4 (.t 11)),o 98 (.ldn 4 (.t 12)),o 99 (.call 24 [(.t 96),(.t 97),(.t 98)]),o 100 (.call 23 [(.t 99)]),o 101 (.agg [(.int .i32 0),(.int .i32 0),(.int .i32 0),(.int .i32 0)] [(0,1,(.t 100))]),e (.st 4 (.t 8) (.t 101)),o 9 (.mv (ki 0))])
 .ret)
 (.seq (.ops [o 103 (.bin 0 .eql (.t 57) (ki 34)),o 102 (.mv (.t 103))])
 (.cond (.t 102) (.seq (.ops [o 104 (.mv (.t 2)),o 105 (.ldn 4 (.t 11)),o 106 (.ldn 4 (.t 12)),o 107 (.call 24 [(.t 104),(.t 105),(.t 106)]),o 108 (.un .not (.t 107)),o 109 (.call 23 [(.t 108)]),o 110 (.agg [(.int .i32 0),(.int .i32 0),(.int .i32 0),(.int .i32 0)] [(0,1,(.t 109))]),e (.st 4 (.t 8) (.t 110)),o 9 (.mv (ki 0))])
 .ret)
 (.seq (.ops [o 112 (.bin 0 .eql (.t 57) (ki 35)),o 111 (.mv (.t 112))])
 (.keep [1,2,4,8,11,12,13,111] (.cond (.t 111) (.seq (.ops [o 113 (.ixp 4 1 (.t 11) (ki 0)),o 114 (.ld (.t 113)),o 115 (.bin 0 .eql (.t 114) (.k (.c (.int .i32 0)))),o 116 (.call 23 [(.t 115)]),o 117 (.agg [(.int .i32 0),(.int .i32 0),(.int .i32 0),(.int .i32 0)] [(0,1,(.t 116))]),e (.st 4 (.t 8) (.t 117)),o 9 (.mv (ki 0))])
 .ret)
 .skip))))))))))))))))))
 (.keep [1,2,4,8,11,12,13] (.seq (.seq (.ops [o 118 (.mv (.t 1)),o 119 (.bin 0 .eql (.t 118) (ki 2))])
 (.cond (.t 119) (.seq (.ops [o 120 (.mv (.t 2)),o 121 (.mkf 26 [] [(.t 4),(.t 11),(.t 12)]),o 122 (.call 25 [(.t 120),(.t 121)]),e (.st 4 (.t 8) (.t 122)),o 9 (.mv (ki 0))])
 .ret)
 .skip))
 (.seq (.seq (.ops [o 123 (.ld (.t 4))])
 (.keep [2,4,8,11,12,13,123] (.block 1 (.seq (.seq (.ops [o 125 (.bin 0 .eql (.t 123) (ki 24)),o 124 (.mv (.t 125))])
 (.cond (.t 124) .skip
 (.seq (.ops [o 126 (.bin 0 .eql (.t 123) (ki 25)),o 124 (.mv (.t 126))])
 (.cond (.t 124) .skip
 (.seq (.ops [o 127 (.bin 0 .eql (.t 123) (ki 26)),o 124 (.mv (.t 127))])
 (.cond (.t 124) .skip
 (.ops [o 128 (.bin 0 .eql (.t 123) (ki 27)),o 124 (.mv (.t 128))])))))))
 (.keep [2,4,8,11,12,13,123,124] (.cond (.t 124) (.seq (.ops [o 129 (.ld (.t 4)),o 130 (.bin 0 .add (ki 0) (.t 129)),o 131 (.bin 0 .sub (.t 130) (ki 24)),o 132 (.mv (.t 2)),o 133 (.ldn 4 (.t 11)),o 134 (.ldn 4 (.t 12)),o 135 (.call 28 [(.t 131),(.t 132),(.t 133),(.t 134)]),o 136 (.ext 0 (.t 135)),o 137 (.ext 1 (.t 135)),e (.st 4 (.t 8) (.t 136)),o 9 (.mv (.t 137))])
 .ret)
 (.seq (.ops [o 139 (.bin 0 .eql (.t 123) (ki 28)),o 138 (.mv (.t 139))])
 (.cond (.t 138) (.seq (.ops [o 140 (.mv (.t 2)),o 141 (.ldn 4 (.t 11)),o 142 (.call 29 [(ki 0),(.t 140),(.t 141)]),o 143 (.ext 0 (.t 142)),o 144 (.ext 1 (.t 142)),e (.st 4 (.t 8) (.t 143)),o 9 (.mv (.t 144))])
 .ret)
 (.seq (.seq (.ops [o 146 (.bin 0 .eql (.t 123) (ki 1)),o 145 (.mv (.t 146))])
 (.cond (.t 145) .skip
 (.seq (.ops [o 147 (.bin 0 .eql (.t 123) (ki 2)),o 145 (.mv (.t 147))])
 (.cond (.t 145) .skip
 (.seq (.ops [o 148 (.bin 0 .eql (.t 123) (ki 3)),o 145 (.mv (.t 148))])
 (.keep [2,4,8,11,12,13,123,145] (.cond (.t 145) .skip
 (.ops [o 149 (.bin 0 .eql (.t 123) (ki 4)),o 145 (.mv (.t 149))]))))))))
 (.cond (.t 145) (.seq (.ops [o 150 (.ld (.t 4)),o 151 (.bin 0 .add (ki 1) (.t 150)),o 152 (.bin 0 .sub (.t 151) (ki 1)),o 153 (.mv (.t 2)),o 154 (.ldn 4 (.t 11)),o 155 (.call 29 [(.t 152),(.t 153),(.t 154)]),o 156 (.ext 0 (.t 155)),o 157 (.ext 1 (.t 155)),e (.st 4 (.t 8) (.t 156)),o 9 (.mv (.t 157))])
 .ret)
 (.seq (.seq (.ops [o 159 (.bin 0 .eql (.t 123) (ki 12)),o 158 (.mv (.t 159))])
 (.keep [2,4,8,11,12,13,123,158] (.cond (.t 158) .skip
 (.seq (.ops [o 160 (.bin 0 .eql (.t 123) (ki 13)),o 158 (.mv (.t 160))])
 (.cond (.t 158) .skip
 (.ops [o 161 (.bin 0 .eql (.t 123) (ki 14)),o 158 (.mv (.t 161))]))))))
 (.cond (.t 158) (.seq (.ops [o 162 (.ld (.t 4)),o 163 (.bin 0 .add (ki 4) (.t 162)),o 164 (.bin 0 .sub (.t 163) (ki 12)),o 165 (.mv (.t 2)),o 166 (.ldn 4 (.t 11)),o 167 (.ldn 4 (.t 12)),o 168 (.call 28 [(.t 164),(.t 165),(.t 166),(.t 167)]),o 169 (.ext 0 (.t 168)),o 170 (.ext 1 (.t 168)),e (.st 4 (.t 8) (.t 169)),o 9 (.mv (.t 170))])
 .ret)
 (.seq (.ops [o 172 (.bin 0 .eql (.t 123) (ki 16)),o 171 (.mv (.t 172))])
 (.cond (.t 171) (.seq (.ops [o 173 (.mv (.t 2)),o 174 (.ldn 4 (.t 11)),o 175 (.ldn 4 (.t 12)),o 176 (.call 28 [(ki 7),(.t 173),(.t 174),(.t 175)]),o 177 (.ext 0 (.t 176)),o 178 (.ext 1 (.t 176)),e (.st 4 (.t 8) (.t 177)),o 9 (.mv (.t 178))])
 .ret)
 (.seq (.ops [o 180 (.bin 0 .eql (.t 123) (ki 15)),o 179 (.mv (.t 180))])
 (.keep [2,4,8,11,12,13,123,179] (.cond (.t 179) (.seq (.ops [o 181 (.mv (.t 2)),o 182 (.mkf 30 [] [(.t 11),(.t 12)]),o 183 (.call 25 [(.t 181),(.t 182)]),e (.st 4 (.t 8) (.t 183)),o 9 (.mv (ki 0))])
 .ret)
 (.seq (.ops [o 185 (.bin 0 .eql (.t 123) (ki 17)),o 184 (.mv (.t 185))])
 (.cond (.t 184) (.seq (.ops [o 186 (.mv (.t 2)),o 187 (.ldn 4 (.t 11)),o 188 (.ldn 4 (.t 12)),o 189 (.ldn 4 (.t 13)),o 190 (.call 32 [(.t 186),(.t 187),(.t 188),(.t 189)]),o 191 (.ext 0 (.t 190)),o 192 (.ext 1 (.t 190)),e (.st 4 (.t 8) (.t 191)),o 9 (.mv (.t 192))])
 .ret)
 (.seq (.ops [o 194 (.bin 0 .eql (.t 123) (ki 18)),o 193 (.mv (.t 194))])
 (.cond (.t 193) (.seq (.ops [o 195 (.mv (.t 2)),o 196 (.ldn 4 (.t 11)),o 197 (.ldn 4 (.t 12)),o 198 (.ldn 4 (.t 13)),o 199 (.call 33 [(.t 195),(.t 196),(.t 197),(.t 198)]),o 200 (.ext 0 (.t 199)),o 201 (.ext 1 (.t 199)),e (.st 4 (.t 8) (.t 200)),o 9 (.mv (.t 201))])
 .ret)
 (.seq (.ops [o 203 (.bin 0 .eql (.t 123) (ki 19)),o 202 (.mv (.t 203))])
 (.cond (.t 202) (.seq (.ops [o 205 (.mv (.t 2)),o 206 (.ldn 4 (.t 11)),o 207 (.ldn 4 (.t 12)),o 208 (.call 34 [(.t 205),(.t 206),(.t 207)]),o 204 (.mv (.t 208)),o 209 (.ext 0 (.t 204)),o 210 (.ext 1 (.t 204)),o 14 (.mv (.t 209)),o 15 (.mv (.t 210))])
 (.keep [8,14,15] (.seq (.ops [o 211 (.mv (.t 14)),o 212 (.agg [(.int .i32 0),(.int .i32 0),(.int .i32 0),(.int .i32 0)] [(0,1,(.t 211))]),o 213 (.mv (.t 15)),e (.st 4 (.t 8) (.t 212)),o 9 (.mv (.t 213))])
 .ret)))
 (.seq (.ops [o 215 (.bin 0 .eql (.t 123) (ki 21)),o 214 (.mv (.t 215))])
 (.keep [2,4,8,11,12,123,214] (.cond (.t 214) (.seq (.ops [o 216 (.ldn 4 (.t 11)),o 217 (.ldn 4 (.t 12)),o 218 (.call 35 [(.t 216),(.t 217)]),e (.st 4 (.t 8) (.t 218)),o 9 (.mv (ki 0))])
 .ret)
 (.seq (.ops [o 220 (.bin 0 .eql (.t 123) (ki 11)),o 219 (.mv (.t 220))])
 (.cond (.t 219) (.seq (.ops [o 221 (.ldn 4 (.t 11)),o 222 (.mv (.t 2)),o 223 (.call 36 [(.t 221),(.t 222)]),e (.st 4 (.t 8) (.t 223)),o 9 (.mv (ki 0))])
 .ret)
 (.seq (.ops [o 225 (.bin 0 .eql (.t 123) (ki 20)),o 224 (.mv (.t 225))])
 (.cond (.t 224) (.seq (.ops [o 226 (.ldn 4 (.t 11)),o 227 (.mv (.t 2)),o 228 (.call 37 [(.t 226),(.t 227)]),o 229 (.agg [(.int .i32 0),(.int .i32 0),(.int .i32 0),(.int .i32 0)] [(0,1,(.t 228))]),e (.st 4 (.t 8) (.t 229)),o 9 (.mv (ki 0))])
 .ret)
 .skip))))))))))))))))))))))))))))))
 (.keep [2,4,8,11] (.seq (.ops [o 230 (.ld (.t 4)),o 231 (.call 38 [(.t 230)]),o 16 (.alloc [.nilfn]),e (.st 1 (.t 16) (.t 231))])
 (.seq (.ops [o 232 (.mv (.t 2)),o 233 (.mkf 39 [] [(.t 16),(.t 11)]),o 234 (.call 25 [(.t 232),(.t 233)]),e (.st 4 (.t 8) (.t 234)),o 9 (.mv (ki 0))])
 .ret)))))))))))))))),
 [.celln 8 4,.tmp 9]⟩
def F12 : AFun := ⟨6,
 (.seq (.ops [o 9 (.box (.t 3)),o 10 (.box (.t 4)),o 11 (.box (.t 5)),o 12 (.alloc [(.int .i32 0),(.int .i32 0),(.int .i32 0),(.int .i32 0)])])
 (.seq (.seq (.ops [o 15 (.mv (.t 0)),o 16 (.bin 0 .eql (.t 15) (ki 29))])
 (.cond (.t 16) (.seq (.ops [o 17 (.ixp 4 1 (.t 9) (ki 0)),o 18 (.ld (.t 17)),o 19 (.ixp 4 1 (.t 10) (ki 0)),o 20 (.ld (.t 19)),o 21 (.bin 0 .lss (.t 18) (.t 20)),o 22 (.call 40 [(.t 21)]),o 23 (.agg [(.int .i32 0),(.int .i32 0),(.int .i32 0),(.int .i32 0)] [(0,1,(.t 22))]),e (.st 4 (.t 12) (.t 23))])
 .ret)
 .skip))
 (.keep [0,1,2,9,10,11,12] (.seq (.seq (.ops [o 24 (.mv (.t 0)),o 25 (.bin 0 .eql (.t 24) (ki 30))])
 (.cond (.t 25) (.seq (.ops [o 26 (.ixp 4 1 (.t 9) (ki 0)),o 27 (.ld (.t 26)),o 28 (.ixp 4 1 (.t 10) (ki 0)),o 29 (.ld (.t 28)),o 30 (.bin 0 .gtr (.t 27) (.t 29)),o 31 (.call 40 [(.t 30)]),o 32 (.agg [(.int .i32 0),(.int .i32 0),(.int .i32 0),(.int .i32 0)] [(0,1,(.t 31))]),e (.st 4 (.t 12) (.t 32))])
 .ret)
 .skip))
 (.keep [0,1,2,9,10,11,12] (.seq (.seq (.ops [o 33 (.mv (.t 0)),o 34 (.bin 0 .eql (.t 33) (ki 31))])
 (.cond (.t 34) (.seq (.ops [o 35 (.ixp 4 1 (.t 9) (ki 0)),o 36 (.ld (.t 35)),o 37 (.ixp 4 1 (.t 10) (ki 0)),o 38 (.ld (.t 37)),o 39 (.bin 0 .leq (.t 36) (.t 38)),o 40 (.call 40 [(.t 39)]),o 41 (.agg [(.int .i32 0),(.int .i32 0),(.int .i32 0),(.int .i32 0)] [(0,1,(.t 40))]),e (.st 4 (.t 12) (.t 41))])
 .ret)
 .skip))
 (.keep [0,1,2,9,10,11,12] (.seq (.seq (.ops [o 42 (.mv (.t 0)),o 43 (.bin 0 .eql (.t 42) (ki 32))])
 (.cond (.t 43) (.seq (.ops [o 44 (.ixp 4 1 (.t 9) (ki 0)),o 45 (.ld (.t 44)),o 46 (.ixp 4 1 (.t 10) (ki 0)),o 47 (.ld (.t 46)),o 48 (.bin 0 .geq (.t 45) (.t 47)),o 49 (.call 40 [(.t 48)]),o 50 (.agg [(.int .i32 0),(.int .i32 0),(.int .i32 0),(.int .i32 0)] [(0,1,(.t 49))]),e (.st 4 (.t 12) (.t 50))])
 .ret)
 .skip))
 (.keep [0,1,2,9,10,11,12] (.seq (.seq (.ops [o 51 (.mv (.t 0)),o 52 (.bin 0 .eql (.t 51) (ki 33)),o 53 (.mv (.t 52)),⟨(some 54),(.mv (.t 0)),some (53,false)⟩,⟨(some 55),(.bin 0 .eql (.t 54) (ki 34)),some (53,false)⟩,o 56 (.pick (.t 53) (.k (.c (.bool true))) (.t 55))])
 (.cond (.t 56) (.seq (.ops [o 57 (.mv (.t 2)),o 58 (.ldn 4 (.t 9)),o 59 (.ldn 4 (.t 10)),o 60 (.call 41 [(.t 57),(.t 58),(.t 59)]),o 61 (.mv (.t 0)),o 62 (.bin 0 .eql (.t 61) (ki 33)),o 63 (.bin 1 .eql (.t 60) (.t 62)),o 64 (.call 40 [(.t 63)]),o 65 (.agg [(.int .i32 0),(.int .i32 0),(.int .i32 0),(.int .i32 0)] [(0,1,(.t 64))]),e (.st 4 (.t 12) (.t 65))])
 .ret)
 .skip))
 (.keep [0,1,2,9,10,11,12] (.seq (.seq (.ops [o 66 (.mv (.t 0)),o 67 (.bin 0 .eql (.t 66) (ki 35))])
 (.cond (.t 67) (.seq (.ops [o 68 (.ixp 4 1 (.t 9) (ki 0)),o 69 (.ld (.t 68)),o 70 (.bin 0 .eql (.t 69) (.k (.c (.int .i32 0)))),o 71 (.call 40 [(.t 70)]),o 72 (.agg [(.int .i32 0),(.int .i32 0),(.int .i32 0),(.int .i32 0)] [(0,1,(.t 71))]),e (.st 4 (.t 12) (.t 72))])
 .ret)
 .skip))
 (.keep [0,1,2,9,10,11,12] (.seq (.seq (.ops [o 73 (.mv (.t 0)),o 74 (.bin 0 .eql (.t 73) (ki 11))])
 (.cond (.t 74) (.seq (.ops [o 75 (.ldn 4 (.t 9)),o 76 (.mv (.t 2)),o 77 (.call 42 [(.t 75),(.t 76)]),e (.st 4 (.t 12) (.t 77))])
 .ret)
 .skip))
 (.seq (.seq (.ops [o 78 (.mv (.t 0)),o 79 (.bin 0 .eql (.t 78) (ki 17))])
 (.keep [0,1,2,9,10,11,12,79] (.cond (.t 79) (.seq (.ops [o 80 (.mv (.t 2)),o 81 (.ldn 4 (.t 9)),o 82 (.ldn 4 (.t 10)),o 83 (.ldn 4 (.t 11)),o 84 (.call 43 [(.t 80),(.t 81),(.t 82),(.t 83)]),e (.st 4 (.t 12) (.t 84))])
 .ret)
 .skip)))
 (.seq (.seq (.ops [o 85 (.mv (.t 0)),o 86 (.bin 0 .eql (.t 85) (ki 18))])
 (.keep [0,1,2,9,10,11,12,86] (.cond (.t 86) (.seq (.ops [o 87 (.mv (.t 2)),o 88 (.ldn 4 (.t 9)),o 89 (.ldn 4 (.t 10)),o 90 (.ldn 4 (.t 11)),o 91 (.call 44 [(.t 87),(.t 88),(.t 89),(.t 90)]),e (.st 4 (.t 12) (.t 91))])
 .ret)
 .skip)))
 (.seq (.seq (.ops [o 92 (.mv (.t 0)),o 93 (.bin 0 .eql (.t 92) (ki 19))])
 (.keep [0,1,2,9,10,12,93] (.cond (.t 93) (.seq (.ops [o 94 (.mv (.t 2)),o 95 (.ldn 4 (.t 9)),o 96 (.ldn 4 (.t 10)),o 97 (.call 45 [(.t 94),(.t 95),(.t 96)]),o 98 (.agg [(.int .i32 0),(.int .i32 0),(.int .i32 0),(.int .i32 0)] [(0,1,(.t 97))]),e (.st 4 (.t 12) (.t 98))])
 .ret)
 .skip)))
 (.seq (.seq (.ops [o 99 (.mv (.t 0)),o 100 (.bin 0 .eql (.t 99) (ki 20))])
 (.keep [0,1,2,9,10,12,100] (.cond (.t 100) (.seq (.ops [o 101 (.ldn 4 (.t 9)),o 102 (.mv (.t 2)),o 103 (.call 46 [(.t 101),(.t 102)]),o 104 (.agg [(.int .i32 0),(.int .i32 0),(.int .i32 0),(.int .i32 0)] [(0,1,(.t 103))]),e (.st 4 (.t 12) (.t 104))])
 .ret)
 .skip)))
 (.seq (.seq (.ops [o 105 (.mv (.t 0)),o 106 (.bin 0 .eql (.t 105) (ki 21))])
 (.cond (.t 106) (.seq (.ops [o 107 (.ldn 4 (.t 9)),o 108 (.ldn 4 (.t 10)),o 109 (.call 47 [(.t 107),(.t 108)]),e (.st 4 (.t 12) (.t 109))])
 .ret)
 .skip))
 (.keep [0,1,2,9,10,12] (.seq (.ops [o 13 (.alloc [(.int .i32 0),(.int .i32 0),(.int .i32 0),(.int .i32 0)])])
 (.seq (.seq (.ops [o 14 (.mv (ki 0))])
 (.block 0 (.loop [0,1,2,9,10,12,13,14] (.seq (.seq (.ops [o 110 (.mv (.t 14)),o 111 (.mv (.t 2)),o 112 (.bin 0 .lss (.t 110) (.t 111))])
 (.cond (.t 112) .skip
 (.exit 0)))
 (.seq (.block 1 (.seq (.ops [o 115 (.mv (.t 1)),o 116 (.bin 0 .eql (.t 115) (ki 2))])
 (.cond (.t 116) (.dops [.op 0 (o 117 (.mv (.t 14))),.op 1 (o 118 (.mv (.t 0))),.op 2 (o 119 (.mv (.t 14))),.op 6 (o 123 (.mv (.t 14))),.op 3 (o 120 (.ixp 4 1 (.t 9) (.t 119))),.op 7 (o 124 (.ixp 4 1 (.t 10) (.t 123))),.op 4 (o 121 (.ld (.t 120))),.op 8 (o 125 (.ld (.t 124))),.op 5 (o 122 (.convi .i64 (.t 121))),.op 9 (o 126 (.convi .i64 (.t 125))),.eff 10 (o 127 (.call 48 [(.t 118),(.t 122),(.t 126)])) [],.op 11 (o 128 (.ixp 4 1 (.t 13) (.t 117))),.eff 12 (e (.st 1 (.t 128) (.t 127))) []])
 (.seq (.ops [o 129 (.mv (.t 0)),o 130 (.bin 0 .geq (.t 129) (ki 24)),o 131 (.mv (.t 130)),⟨(some 132),(.mv (.t 0)),some (131,true)⟩,⟨(some 133),(.bin 0 .leq (.t 132) (ki 27)),some (131,true)⟩,o 134 (.pick (.t 131) (.t 133) (.k (.c (.bool false))))])
 (.keep [0,1,2,9,10,12,13,14,134] (.cond (.t 134) (.dops [.op 0 (o 135 (.mv (.t 14))),.op 1 (o 136 (.mv (.t 0))),.op 3 (o 138 (.mv (.t 14))),.op 6 (o 141 (.mv (.t 14))),.op 2 (o 137 (.bin 0 .sub (.t 136) (ki 24))),.op 4 (o 139 (.ixp 4 1 (.t 9) (.t 138))),.op 7 (o 142 (.ixp 4 1 (.t 10) (.t 141))),.op 5 (o 140 (.ld (.t 139))),.op 8 (o 143 (.ld (.t 142))),.eff 9 (o 144 (.call 49 [(.t 137),(.t 140),(.t 143)])) [],.op 10 (o 145 (.ixp 4 1 (.t 13) (.t 135))),.eff 11 (e (.st 1 (.t 145) (.t 144))) []])
 (.seq (.ops [o 146 (.mv (.t 0)),o 147 (.bin 0 .eql (.t 146) (ki 28))])
 (.cond (.t 147) (.ops [o 148 (.mv (.t 14)),o 149 (.mv (.t 14)),o 150 (.ixp 4 1 (.t 9) (.t 149)),o 151 (.ld (.t 150)),o 152 (.call 50 [(.t 151)]),o 153 (.ixp 4 1 (.t 13) (.t 148)),e (.st 1 (.t 153) (.t 152))])
 (.seq (.ops [o 154 (.mv (.t 0)),o 155 (.bin 0 .eql (.t 154) (ki 15))])
 (.cond (.t 155) (.dops [.op 0 (o 156 (.mv (.t 14))),.op 1 (o 157 (.mv (.t 14))),.op 4 (o 160 (.mv (.t 14))),.op 2 (o 158 (.ixp 4 1 (.t 9) (.t 157))),.op 5 (o 161 (.ixp 4 1 (.t 10) (.t 160))),.op 3 (o 159 (.ld (.t 158))),.op 6 (o 162 (.ld (.t 161))),.eff 7 (o 163 (.call 51 [(.t 159),(.t 162)])) [],.op 8 (o 164 (.ixp 4 1 (.t 13) (.t 156))),.eff 9 (e (.st 1 (.t 164) (.t 163))) []])
 (.seq (.ops [o 165 (.mv (.t 0)),o 166 (.bin 0 .geq (.t 165) (ki 12)),o 167 (.mv (.t 166)),⟨(some 168),(.mv (.t 0)),some (167,true)⟩,⟨(some 169),(.bin 0 .leq (.t 168) (ki 14)),some (167,true)⟩,o 170 (.pick (.t 167) (.t 169) (.k (.c (.bool false))))])
 (.keep [0,1,2,9,10,12,13,14,170] (.cond (.t 170) (.dops [.op 0 (o 171 (.mv (.t 14))),.op 1 (o 172 (.mv (.t 0))),.op 3 (o 174 (.mv (.t 14))),.op 6 (o 177 (.mv (.t 14))),.op 2 (o 173 (.bin 0 .sub (.t 172) (ki 8))),.op 4 (o 175 (.ixp 4 1 (.t 9) (.t 174))),.op 7 (o 178 (.ixp 4 1 (.t 10) (.t 177))),.op 5 (o 176 (.ld (.t 175))),.op 8 (o 179 (.ld (.t 178))),.eff 9 (o 180 (.call 49 [(.t 173),(.t 176),(.t 179)])) [],.op 10 (o 181 (.ixp 4 1 (.t 13) (.t 171))),.eff 11 (e (.st 1 (.t 181) (.t 180))) []])
 (.seq (.ops [o 182 (.mv (.t 0)),o 183 (.bin 0 .eql (.t 182) (ki 16))])
 (.cond (.t 183) (.dops [.op 0 (o 184 (.mv (.t 14))),.op 1 (o 185 (.mv (.t 14))),.op 4 (o 188 (.mv (.t 14))),.op 2 (o 186 (.ixp 4 1 (.t 9) (.t 185))),.op 5 (o 189 (.ixp 4 1 (.t 10) (.t 188))),.op 3 (o 187 (.ld (.t 186))),.op 6 (o 190 (.ld (.t 189))),.eff 7 (o 191 (.call 49 [(ki 7),(.t 187),(.t 190)])) [],.op 8 (o 192 (.ixp 4 1 (.t 13) (.t 184))),.eff 9 (e (.st 1 (.t 192) (.t 191))) []])
 (.ops [o 193 (.mv (.t 14)),o 194 (.mv (.t 0)),o 195 (.mv (.t 14)),o 196 (.ixp 4 1 (.t 9) (.t 195)),o 197 (.ld (.t 196)),o 198 (.call 52 [(.t 194),(.t 197)]),o 199 (.ixp 4 1 (.t 13) (.t 193)),e (.st 1 (.t 199) (.t 198))]))))))))))))))))
 (.keep [0,1,2,9,10,12,13,14] (.ops [o 113 (.mv (.t 14)),o 114 (.bin 0 .add (.t 113) (ki 1)),o 14 (.mv (.t 114))])))))))
 (.seq (.ops [o 200 (.ldn 4 (.t 13)),e (.st 4 (.t 12) (.t 200))])
 .ret))))))))))))))))))))))),
 [.celln 12 4]⟩
def F13 : AFun := ⟨3,
 (.seq (.ops [o 6 (.mv (.k (.c (.int .i32 0)))),o 7 (.mv (ki 0))])
 (.seq (.seq (.ops [o 10 (.mv (.t 0)),o 11 (.mv (.t 1)),o 12 (.agg [(.int .i64 0),(.int .i64 0)] [(0,1,(.t 10)),(1,1,(.t 11))]),o 13 (.mv (ki 0))])
 (.block 0 (.loop [0,1,2,12,13] (.seq (.ops [o 14 (.bin 0 .lss (.t 13) (ki 2))])
 (.seq (.cond (.t 14) .skip
 (.exit 0))
 (.seq (.block 1 (.seq (.ops [o 15 (.ixv 2 none (.t 12) (.t 13)),o 9 (.mv (.t 15))])
 (.seq (.ops [o 16 (.mv (.t 9)),o 17 (.bin 0 .lss (.t 16) (ki 1)),o 18 (.mv (.t 17)),⟨(some 19),(.mv (.t 9)),some (18,false)⟩,⟨(some 20),(.bin 0 .gtr (.t 19) (ki 3)),some (18,false)⟩,o 21 (.pick (.t 18) (.k (.c (.bool true))) (.t 20))])
 (.cond (.t 21) (.seq (.ops [o 6 (.mv (.k (.c (.int .i32 0)))),o 7 (.mv (ki 2))])
 .ret)
 .skip))))
 (.keep [0,1,2,12,13] (.ops [o 22 (.bin 0 .add (.t 13) (ki 1)),o 13 (.mv (.t 22))]))))))))
 (.seq (.block 2 (.seq (.ops [o 24 (.mv (.t 0)),o 25 (.mv (.t 1)),o 26 (.bin 0 .eql (.t 24) (.t 25)),o 23 (.mv (.t 26))])
 (.cond (.t 23) (.seq (.ops [o 27 (.mv (.t 2)),o 6 (.mv (.t 27)),o 7 (.mv (ki 0))])
 .ret)
 (.seq (.ops [o 29 (.mv (.t 1)),o 30 (.bin 0 .eql (.t 29) (ki 3)),o 28 (.mv (.t 30))])
 (.cond (.t 28) (.seq (.ops [o 31 (.mv (.t 2)),o 32 (.bin 0 .neq (.t 31) (.k (.c (.int .i32 0)))),o 33 (.call 23 [(.t 32)]),o 6 (.mv (.t 33)),o 7 (.mv (ki 0))])
 .ret)
 (.seq (.ops [o 35 (.mv (.t 1)),o 36 (.bin 0 .eql (.t 35) (ki 2)),o 37 (.mv (.t 36)),⟨(some 38),(.mv (.t 0)),some (37,true)⟩,⟨(some 39),(.bin 0 .eql (.t 38) (ki 1)),some (37,true)⟩,o 40 (.pick (.t 37) (.t 39) (.k (.c (.bool false)))),o 34 (.mv (.t 40))])
 (.keep [0,1,2,34] (.cond (.t 34) (.seq (.ops [o 41 (.mv (.t 2)),o 42 (.bin 0 .quo (.t 41) (.k (.c (.int .i32 65536)))),o 6 (.mv (.t 42)),o 7 (.mv (ki 0))])
 .ret)
 (.seq (.ops [o 44 (.mv (.t 1)),o 45 (.bin 0 .eql (.t 44) (ki 2)),o 43 (.mv (.t 45))])
 (.cond (.t 43) (.seq (.ops [o 46 (.mv (.t 2)),o 6 (.mv (.t 46)),o 7 (.mv (ki 0))])
 .ret)
 (.seq (.ops [o 48 (.mv (.t 0)),o 49 (.bin 0 .eql (.t 48) (ki 2)),o 47 (.mv (.t 49))])
 (.cond (.t 47) (.seq (.ops [o 50 (.mv (.t 2)),o 51 (.convi .i64 (.t 50)),o 52 (.call 53 [(.t 51)]),o 6 (.mv (.t 52)),o 7 (.mv (ki 0))])
 .ret)
 (.seq (.ops [o 54 (.mv (.t 2)),o 55 (.bin 0 .neq (.t 54) (.k (.c (.int .i32 0)))),o 53 (.mv (.t 55))])
 (.cond (.t 53) (.seq (.ops [o 6 (.mv (.k (.c (.int .i32 65536)))),o 7 (.mv (ki 0))])
 .ret)
 .skip))))))))))))))
 (.keep [] (.seq (.ops [o 6 (.mv (.k (.c (.int .i32 0)))),o 7 (.mv (ki 0))])
 .ret))))),
 [.tmp 6,.tmp 7]⟩
def F14 : AFun := ⟨3,
 (.seq (.ops [o 6 (.mv (.k (.c (.int .i32 0))))])
 (.seq (.seq (.ops [o 7 (.mv (.t 0)),o 8 (.mv (.t 1)),o 9 (.bin 0 .eql (.t 7) (.t 8)),o 10 (.mv (.t 9)),⟨(some 11),(.mv (.t 0)),some (10,false)⟩,⟨(some 12),(.bin 0 .eql (.t 11) (ki 3)),some (10,false)⟩,⟨(some 13),(.mv (.t 12)),some (10,false)⟩,⟨(some 14),(.mv (.t 1)),some (13,true)⟩,⟨(some 15),(.bin 0 .eql (.t 14) (ki 2)),some (13,true)⟩,⟨(some 16),(.pick (.t 13) (.t 15) (.k (.c (.bool false)))),some (10,false)⟩,o 17 (.pick (.t 10) (.k (.c (.bool true))) (.t 16))])
 (.keep [0,1,2,17] (.cond (.t 17) (.seq (.ops [o 18 (.mv (.t 2)),o 6 (.mv (.t 18))])
 .ret)
 .skip)))
 (.seq (.seq (.ops [o 19 (.mv (.t 1)),o 20 (.bin 0 .eql (.t 19) (ki 3))])
 (.cond (.t 20) (.seq (.ops [o 21 (.mv (.t 2)),o 22 (.bin 0 .neq (.t 21) (.k (.c (.int .i32 0)))),o 23 (.call 40 [(.t 22)]),o 6 (.mv (.t 23))])
 .ret)
 .skip))
 (.seq (.seq (.ops [o 24 (.mv (.t 1)),o 25 (.bin 0 .eql (.t 24) (ki 2))])
 (.cond (.t 25) (.seq (.ops [o 26 (.mv (.t 2)),o 27 (.convi .i64 (.t 26)),o 28 (.bin 0 .quo (.t 27) (ki 65536)),o 29 (.convi .i32 (.t 28)),o 6 (.mv (.t 29))])
 .ret)
 .skip))
 (.keep [0,2] (.seq (.seq (.ops [o 30 (.mv (.t 0)),o 31 (.bin 0 .eql (.t 30) (ki 3))])
 (.cond (.t 31) (.seq (.ops [o 32 (.mv (.t 2)),o 33 (.bin 0 .neq (.t 32) (.k (.c (.int .i32 0)))),o 34 (.call 40 [(.t 33)]),o 35 (.bin 0 .mul (.k (.c (.int .i32 65536))) (.t 34)),o 6 (.mv (.t 35))])
 .ret)
 .skip))
 (.seq (.ops [o 36 (.mv (.t 2)),o 37 (.convi .i64 (.t 36)),o 38 (.call 54 [(.t 37)]),o 6 (.mv (.t 38))])
 .ret))))))),
 [.tmp 6]⟩
def F15 : AFun := ⟨1,
 (.seq (.ops [o 2 (.alloc [.nilslice]),o 3 (.mv (.k (.c (.bool false))))])
 (.seq (.ops [o 8 (.mv (.t 0)),o 9 (.mv (.t 0)),o 10 (.len 0 (.t 9)),o 11 (.mn [(.t 10),(ki 2500)]),o 12 (.slcs (.t 8) none (some (.t 11))),o 13 (.call 55 [(.t 12)]),o 7 (.mv (.t 13)),o 14 (.ext 0 (.t 7)),o 15 (.ext 1 (.t 7)),o 5 (.alloc [(.int .i64 0),(.int .i64 0)]),o 4 (.mv (.t 14)),e (.st 2 (.t 5) (.t 15))])
 (.keep [2,4,5] (.seq (.seq (.ops [o 16 (.fa 0 (.t 5)),o 17 (.ld (.t 16)),o 18 (.bin 0 .neq (.t 17) (ki 0))])
 (.cond (.t 18) (.seq (.ops [o 19 (.agg [.nilslice] []),e (.st 1 (.t 2) (.t 19)),o 3 (.mv (.k (.c (.bool false))))])
 .ret)
 .skip))
 (.seq (.ops [o 21 (.mv (.t 4)),o 22 (.call 56 [(.t 21)]),o 20 (.mv (.t 22)),o 23 (.ext 0 (.t 20)),o 24 (.ext 1 (.t 20)),o 6 (.alloc [.nilslice]),e (.st 1 (.t 6) (.t 23)),e (.st 2 (.t 5) (.t 24))])
 (.keep [2,5,6] (.seq (.dops [.op 0 (o 25 (.ldn 1 (.t 6))),.op 1 (o 26 (.fa 0 (.t 5))),.op 2 (o 27 (.ld (.t 26))),.op 3 (o 28 (.bin 0 .eql (.t 27) (ki 0))),.eff 4 (e (.st 1 (.t 2) (.t 25))) [o 27 (.ld (.t 26))],.op 5 (o 3 (.mv (.t 28)))])
 .ret))))))),
 [.celln 2 1,.tmp 3]⟩
def F16 : AFun := ⟨2,
 (.seq (.ops [o 2 (.box (.t 0)),o 4 (.alloc [.nilslice,(.int .i64 0),.nilslice,.nilslice,.nilslice,.nilslice,.nilslice,.nilslice,(.int .i64 0)]),o 5 (.alloc [(.int .i64 0),(.int .i64 0)])])
 (.seq (.block 0 (.seq (.ops [o 9 (.mv (.t 1)),o 10 (.bin 0 .neq (.t 9) (ki 1)),o 11 (.mv (.t 10)),⟨(some 12),(.mv (.t 1)),some (11,true)⟩,⟨(some 13),(.bin 0 .neq (.t 12) (ki 2)),some (11,true)⟩,o 14 (.pick (.t 11) (.t 13) (.k (.c (.bool false)))),o 8 (.mv (.t 14))])
 (.cond (.t 8) (.seq (.ops [o 15 (.agg [.nilslice,(.int .i64 0),.nilslice,.nilslice,.nilslice,.nilslice,.nilslice,.nilslice,(.int .i64 0)] []),o 16 (.agg [(.int .i64 0),(.int .i64 0)] [(0,1,(ki 2))]),e (.st 9 (.t 4) (.t 15)),e (.st 2 (.t 5) (.t 16))])
 .ret)
 (.seq (.ops [o 18 (.ldn 1 (.t 2)),o 19 (.call 57 [(.t 18)]),o 20 (.bin 0 .neq (.t 19) (ki 0)),o 17 (.mv (.t 20))])
 (.keep [1,2,4,5,17] (.cond (.t 17) (.seq (.ops [o 21 (.agg [.nilslice,(.int .i64 0),.nilslice,.nilslice,.nilslice,.nilslice,.nilslice,.nilslice,(.int .i64 0)] []),o 22 (.agg [(.int .i64 0),(.int .i64 0)] [(0,1,(ki 221))]),e (.st 9 (.t 4) (.t 21)),e (.st 2 (.t 5) (.t 22))])
 .ret)
 .skip))))))
 (.keep [1,2,4,5] (.seq (.ops [o 24 (.ldn 1 (.t 2)),o 25 (.mv (.t 1)),o 26 (.call 58 [(.t 24),(.t 25)]),o 23 (.mv (.t 26)),o 27 (.ext 0 (.t 23)),o 28 (.ext 1 (.t 23)),o 7 (.alloc [(.int .i64 0),(.int .i64 0)]),o 6 (.mv (.t 27)),e (.st 2 (.t 7) (.t 28))])
 (.seq (.seq (.ops [o 29 (.fa 0 (.t 7)),o 30 (.ld (.t 29)),o 31 (.bin 0 .neq (.t 30) (ki 0))])
 (.keep [4,5,6,7,31] (.cond (.t 31) (.seq (.dops [.op 0 (o 32 (.agg [.nilslice,(.int .i64 0),.nilslice,.nilslice,.nilslice,.nilslice,.nilslice,.nilslice,(.int .i64 0)] [])),.op 1 (o 33 (.ldn 2 (.t 7))),.eff 2 (e (.st 9 (.t 4) (.t 32))) [o 33 (.ldn 2 (.t 7))],.eff 3 (e (.st 2 (.t 5) (.t 33))) []])
 .ret)
 .skip)))
 (.seq (.dops [.op 0 (o 34 (.mv (.t 6))),.op 4 (o 38 (.ldn 2 (.t 7))),.op 1 (o 35 (.nilck (.t 34))),.op 2 (o 36 (.fa 0 (.t 35))),.op 3 (o 37 (.ldn 9 (.t 36))),.eff 5 (e (.st 9 (.t 4) (.t 37))) [o 38 (.ldn 2 (.t 7))],.eff 6 (e (.st 2 (.t 5) (.t 38))) []])
 .ret)))))),
 [.celln 4 9,.celln 5 2]⟩
def F17 : AFun := ⟨1,
 (.seq (.ops [o 2 (.alloc [(.int .i64 0),(.int .i64 0)])])
 (.seq (.ops [o 3 (.mv (.t 0)),o 4 (.agg [(.int .i64 0),(.int .i64 0)] [(0,1,(ki 1)),(1,1,(.t 3))]),e (.st 2 (.t 2) (.t 4))])
 .ret)),
 [.celln 2 2]⟩
def F18 : AFun := ⟨1,
 (.seq (.ops [o 2 (.alloc [(.int .i64 0),(.int .i64 0)])])
 (.seq (.ops [o 3 (.mv (.t 0)),o 4 (.agg [(.int .i64 0),(.int .i64 0)] [(0,1,(.t 3)),(1,1,(ki 1))]),e (.st 2 (.t 2) (.t 4))])
 .ret)),
 [.celln 2 2]⟩
def F19 : AFun := ⟨2,
 (.seq (.ops [o 4 (.alloc [.nilslice,(.int .i64 0),.nilslice,.nilslice,.nilslice,.nilslice,.nilslice,.nilslice,(.int .i64 0)]),o 5 (.mv (.k (.c (.bool false))))])
 (.seq (.ops [o 11 (.mv (.t 0)),o 12 (.call 55 [(.t 11)]),o 10 (.mv (.t 12)),o 13 (.ext 0 (.t 10)),o 14 (.ext 1 (.t 10)),o 7 (.alloc [(.int .i64 0),(.int .i64 0)]),o 6 (.mv (.t 13)),e (.st 2 (.t 7) (.t 14))])
 (.seq (.seq (.ops [o 15 (.fa 0 (.t 7)),o 16 (.ld (.t 15)),o 17 (.bin 0 .neq (.t 16) (ki 0))])
 (.keep [1,4,6,7,17] (.cond (.t 17) (.seq (.ops [o 18 (.agg [.nilslice,(.int .i64 0),.nilslice,.nilslice,.nilslice,.nilslice,.nilslice,.nilslice,(.int .i64 0)] []),e (.st 9 (.t 4) (.t 18)),o 5 (.mv (.k (.c (.bool false))))])
 .ret)
 .skip)))
 (.seq (.ops [o 20 (.mv (.t 6)),o 21 (.call 56 [(.t 20)]),o 19 (.mv (.t 21)),o 22 (.ext 0 (.t 19)),o 23 (.ext 1 (.t 19)),o 8 (.alloc [.nilslice]),e (.st 1 (.t 8) (.t 22)),e (.st 2 (.t 7) (.t 23))])
 (.keep [1,4,7,8] (.seq (.seq (.ops [o 24 (.fa 0 (.t 7)),o 25 (.ld (.t 24)),o 26 (.bin 0 .neq (.t 25) (ki 0))])
 (.cond (.t 26) (.seq (.ops [o 27 (.agg [.nilslice,(.int .i64 0),.nilslice,.nilslice,.nilslice,.nilslice,.nilslice,.nilslice,(.int .i64 0)] []),e (.st 9 (.t 4) (.t 27)),o 5 (.mv (.k (.c (.bool false))))])
 .ret)
 .skip))
 (.seq (.ops [o 29 (.ldn 1 (.t 8)),o 30 (.mv (.t 1)),o 31 (.call 16 [(.t 29),(.t 30)]),o 28 (.mv (.t 31)),o 32 (.ext 0 (.t 28)),o 33 (.ext 1 (.t 28)),o 9 (.alloc [.nilslice,(.int .i64 0),.nilslice,.nilslice,.nilslice,.nilslice,.nilslice,.nilslice,(.int .i64 0)]),e (.st 9 (.t 9) (.t 32)),e (.st 2 (.t 7) (.t 33))])
 (.keep [4,7,9] (.seq (.dops [.op 0 (o 34 (.ldn 9 (.t 9))),.op 1 (o 35 (.fa 0 (.t 7))),.op 2 (o 36 (.ld (.t 35))),.op 3 (o 37 (.bin 0 .eql (.t 36) (ki 0))),.eff 4 (e (.st 9 (.t 4) (.t 34))) [o 36 (.ld (.t 35))],.op 5 (o 5 (.mv (.t 37)))])
 .ret))))))))),
 [.celln 4 9,.tmp 5]⟩
def F20 : AFun := ⟨2,
 (.seq (.ops [o 2 (.box (.t 0)),o 3 (.box (.t 1)),o 4 (.alloc [(.int .i32 0),(.int .i32 0),(.int .i32 0),(.int .i32 0),(.int .i32 0),.nilslice,(.int .i32 0),(.int .i32 0),(.int .i32 0),(.int .i32 0),(.bool false)]),o 5 (.mv (ki 0))])
 (.seq (.block 0 (.seq (.ops [o 15 (.ldn 9 (.t 2)),o 16 (.call 59 [(.t 15)]),o 17 (.un .not (.t 16)),o 18 (.mv (.t 17)),⟨(some 19),(.ldn 9 (.t 2)),some (18,false)⟩,⟨(some 20),(.ldn 13 (.t 3)),some (18,false)⟩,⟨(some 21),(.call 60 [(.t 19),(.t 20)]),some (18,false)⟩,⟨(some 22),(.un .not (.t 21)),some (18,false)⟩,o 23 (.pick (.t 18) (.k (.c (.bool true))) (.t 22)),o 14 (.mv (.t 23))])
 (.keep [2,3,4,14] (.cond (.t 14) (.seq (.ops [o 24 (.agg [(.int .i32 0),(.int .i32 0),(.int .i32 0),(.int .i32 0),(.int .i32 0),.nilslice,(.int .i32 0),(.int .i32 0),(.int .i32 0),(.int .i32 0),(.bool false)] []),e (.st 11 (.t 4) (.t 24)),o 5 (.mv (ki 2))])
 .ret)
 (.seq (.ops [o 26 (.ldn 9 (.t 2)),o 27 (.call 61 [(.t 26)]),o 28 (.bin 0 .gtr (.t 27) (ki 65536)),o 25 (.mv (.t 28))])
 (.cond (.t 25) (.seq (.ops [o 29 (.agg [(.int .i32 0),(.int .i32 0),(.int .i32 0),(.int .i32 0),(.int .i32 0),.nilslice,(.int .i32 0),(.int .i32 0),(.int .i32 0),(.int .i32 0),(.bool false)] []),e (.st 11 (.t 4) (.t 29)),o 5 (.mv (ki 3))])
 .ret)
 .skip))))))
 (.seq (.ops [o 30 (.ldn 9 (.t 2)),o 31 (.ldn 13 (.t 3)),o 32 .mkm,o 33 (.agg [.nilslice,(.int .i64 0),.nilslice,.nilslice,.nilslice,.nilslice,.nilslice,.nilslice,(.int .i64 0),.nilslice,.nilslice,.nilslice,(.int .i32 0),(.int .i32 0),(.int .i32 0),(.int .i32 0),(.bool false),(.int .i32 0),(.int .i32 0),(.int .i32 0),(.int .i32 0),.nilslice,.nilmap,(.int .i32 0),(.int .i32 0),(.int .i32 0),(.int .i32 0)] [(0,9,(.t 30)),(9,13,(.t 31)),(22,1,(.t 32))]),o 34 (.box (.t 33)),o 6 (.mv (.t 34))])
 (.keep [2,4,6] (.seq (.ops [o 35 (.mv (.t 6)),o 36 (.call 62 [(.t 35)])])
 (.seq (.seq (.ops [o 37 (.fa 0 (.t 2)),o 38 (.fa 0 (.t 37)),o 39 (.ld (.t 38)),o 40 (.ixa 6 (.t 39) (ki 0)),o 41 (.fa 4 (.t 40)),o 42 (.ld (.t 41)),o 43 (.len 1 (.t 42)),o 44 (.mv (ki 0))])
 (.block 1 (.loop [2,4,6,42,43,44] (.seq (.ops [o 45 (.bin 0 .lss (.t 44) (.t 43))])
 (.seq (.cond (.t 45) .skip
 (.exit 1))
 (.seq (.block 2 (.seq (.ops [o 46 (.ixa 1 (.t 42) (.t 44)),o 47 (.ld (.t 46)),o 8 (.mv (.t 47))])
 (.seq (.ops [o 48 (.fa 0 (.t 2)),o 49 (.fa 0 (.t 48)),o 50 (.ld (.t 49)),o 51 (.mv (.t 8)),o 52 (.ixa 6 (.t 50) (.t 51)),o 53 (.ldn 6 (.t 52)),o 9 (.alloc [(.int .i64 0),(.str (bs [])),(.str (bs [])),(.int .i32 0),.nilslice,(.int .i64 0)]),e (.st 6 (.t 9) (.t 53))])
 (.keep [2,4,6,8,9,42,43,44] (.seq (.ops [o 54 (.fa 0 (.t 9)),o 55 (.ld (.t 54)),o 56 (.bin 0 .eql (.t 55) (ki 2)),o 57 (.mv (.t 56)),⟨(some 58),(.fa 2 (.t 9)),some (57,true)⟩,⟨(some 59),(.ld (.t 58)),some (57,true)⟩,⟨(some 60),(.bin 0 .eql (.t 59) (.k (.c (.str (bs []))))),some (57,true)⟩,⟨(some 61),(.mv (.t 60)),some (57,true)⟩,⟨(some 62),(.fa 2 (.t 9)),some (61,false)⟩,⟨(some 63),(.ld (.t 62)),some (61,false)⟩,⟨(some 64),(.bin 0 .eql (.t 63) (.k (.c (.str (bs [99,111,110,115,116]))))),some (61,false)⟩,⟨(some 65),(.pick (.t 61) (.k (.c (.bool true))) (.t 64)),some (57,true)⟩,o 66 (.pick (.t 57) (.t 65) (.k (.c (.bool false))))])
 (.keep [2,4,6,8,42,43,44,66] (.cond (.t 66) (.ops [o 67 (.mv (.t 6)),o 68 (.mv (.t 8)),o 69 (.call 63 [(.t 67),(.t 68)])])
 .skip)))))))
 (.ops [o 70 (.bin 0 .add (.t 44) (ki 1)),o 44 (.mv (.t 70))])))))))
 (.seq (.ops [o 71 (.fa 0 (.t 2)),o 72 (.fa 0 (.t 71)),o 73 (.ld (.t 72)),o 74 (.fa 8 (.t 2)),o 75 (.ld (.t 74)),o 76 (.ixa 6 (.t 73) (.t 75)),o 77 (.fa 4 (.t 76)),o 78 (.ld (.t 77)),o 10 (.mv (.t 78))])
 (.keep [2,4,6,10] (.seq (.seq (.ops [o 79 (.mv (.t 6)),o 80 (.mv (.t 10)),o 81 (.mv (.t 10)),o 82 (.len 1 (.t 81)),o 83 (.bin 0 .sub (.t 82) (ki 1)),o 84 (.ixa 1 (.t 80) (.t 83)),o 85 (.ld (.t 84)),o 86 (.call 63 [(.t 79),(.t 85)]),o 87 (.bin 0 .eql (.t 86) (ki 2))])
 (.cond (.t 87) (.seq (.ops [o 88 (.agg [(.int .i32 0),(.int .i32 0),(.int .i32 0),(.int .i32 0),(.int .i32 0),.nilslice,(.int .i32 0),(.int .i32 0),(.int .i32 0),(.int .i32 0),(.bool false)] [(10,1,(.k (.c (.bool true))))]),e (.st 11 (.t 4) (.t 88)),o 5 (.mv (ki 0))])
 .ret)
 .skip))
 (.keep [2,4,6] (.seq (.seq (.ops [o 89 (.fa 1 (.t 2)),o 90 (.ld (.t 89)),o 91 (.bin 0 .eql (.t 90) (ki 2))])
 (.cond (.t 91) (.seq (.ops [o 92 (.mv (.t 6)),o 93 (.nilck (.t 92)),o 94 (.fa 22 (.t 93)),o 95 (.ld (.t 94)),o 96 (.lk false (.agg [(.int .i32 0),(.int .i32 0),(.int .i32 0),(.int .i32 0)]) false (.t 95) (ki (-7))),o 97 (.agg [(.int .i32 0),(.int .i32 0),(.int .i32 0),(.int .i32 0),(.int .i32 0),.nilslice,(.int .i32 0),(.int .i32 0),(.int .i32 0),(.int .i32 0),(.bool false)] [(6,4,(.t 96))]),e (.st 11 (.t 4) (.t 97)),o 5 (.mv (ki 0))])
 .ret)
 .skip))
 (.seq (.dops [.op 0 (o 98 (.mv (.t 6))),.op 5 (o 103 (.mv (.t 6))),.op 1 (o 99 (.nilck (.t 98))),.op 6 (o 104 (.nilck (.t 103))),.op 2 (o 100 (.fa 22 (.t 99))),.op 7 (o 105 (.fa 22 (.t 104))),.op 3 (o 101 (.ld (.t 100))),.op 8 (o 106 (.ld (.t 105))),.op 4 (o 102 (.lk false (.agg [(.int .i32 0),(.int .i32 0),(.int .i32 0),(.int .i32 0)]) false (.t 101) (ki (-2)))),.op 9 (o 107 (.lk false (.agg [(.int .i32 0),(.int .i32 0),(.int .i32 0),(.int .i32 0)]) false (.t 106) (ki (-3)))),.op 10 (o 108 (.ixv 4 none (.t 107) (ki 0))),.op 11 (o 109 (.agg [(.int .i32 0),(.int .i32 0),(.int .i32 0),(.int .i32 0),(.int .i32 0),.nilslice,(.int .i32 0),(.int .i32 0),(.int .i32 0),(.int .i32 0),(.bool false)] [(0,4,(.t 102)),(4,1,(.t 108))])),.eff 12 (o 11 (.alloc [(.int .i32 0),(.int .i32 0),(.int .i32 0),(.int .i32 0),(.int .i32 0),.nilslice,(.int .i32 0),(.int .i32 0),(.int .i32 0),(.int .i32 0),(.bool false)])) [o 101 (.ld (.t 100)),o 106 (.ld (.t 105)),o 102 (.lk false (.agg [(.int .i32 0),(.int .i32 0),(.int .i32 0),(.int .i32 0)]) false (.t 101) (ki (-2))),o 107 (.lk false (.agg [(.int .i32 0),(.int .i32 0),(.int .i32 0),(.int .i32 0)]) false (.t 106) (ki (-3)))],.eff 13 (e (.st 11 (.t 11) (.t 109))) []])
 (.keep [2,4,6,11] (.seq (.seq (.ops [o 110 (.fa 7 (.t 2)),o 111 (.ld (.t 110)),o 112 (.len 1 (.t 111)),o 113 (.mv (ki 0))])
 (.block 3 (.loop [4,6,11,111,112,113] (.seq (.ops [o 114 (.bin 0 .lss (.t 113) (.t 112))])
 (.seq (.cond (.t 114) .skip
 (.exit 3))
 (.seq (.block 4 (.seq (.ops [o 115 (.ixa 1 (.t 111) (.t 113)),o 116 (.ld (.t 115)),o 13 (.mv (.t 116))])
 (.dops [.op 0 (o 117 (.fa 5 (.t 11))),.op 2 (o 119 (.mv (.t 6))),.op 6 (o 123 (.mv (.t 13))),.op 1 (o 118 (.ld (.t 117))),.op 3 (o 120 (.nilck (.t 119))),.op 4 (o 121 (.fa 22 (.t 120))),.op 5 (o 122 (.ld (.t 121))),.op 7 (o 124 (.lk false (.agg [(.int .i32 0),(.int .i32 0),(.int .i32 0),(.int .i32 0)]) false (.t 122) (.t 123))),.eff 8 (o 125 (.mks [(.int .i32 0),(.int .i32 0),(.int .i32 0),(.int .i32 0)] 1 [(0,4,(.t 124))])) [o 118 (.ld (.t 117))],.eff 9 (o 126 (.app 4 16 (.t 118) (.t 125))) [],.op 10 (o 127 (.fa 5 (.t 11))),.eff 11 (e (.st 1 (.t 127) (.t 126))) []])))
 (.keep [4,6,11,111,112,113] (.ops [o 128 (.bin 0 .add (.t 113) (ki 1)),o 113 (.mv (.t 128))]))))))))
 (.seq (.ops [o 129 (.ldn 11 (.t 11)),e (.st 11 (.t 4) (.t 129)),o 5 (.mv (ki 0))])
 .ret))))))))))))))),
 [.celln 4 11,.tmp 5]⟩
def F21 : AFun := ⟨1,
 (.seq (.ops [o 2 (.mv (ki 0))])
 (.seq (.block 0 (.seq (.ops [o 4 (.mv (.t 0)),o 5 (.bin 0 .eql (.t 4) (ki 17)),o 6 (.mv (.t 5)),⟨(some 7),(.mv (.t 0)),some (6,false)⟩,⟨(some 8),(.bin 0 .eql (.t 7) (ki 18)),some (6,false)⟩,o 9 (.pick (.t 6) (.k (.c (.bool true))) (.t 8)),o 3 (.mv (.t 9))])
 (.cond (.t 3) (.seq (.ops [o 2 (.mv (ki 3))])
 .ret)
 (.seq (.seq (.ops [o 11 (.mv (.t 0)),o 12 (.bin 0 .geq (.t 11) (ki 1)),o 13 (.mv (.t 12)),⟨(some 14),(.mv (.t 0)),some (13,true)⟩,⟨(some 15),(.bin 0 .leq (.t 14) (ki 11)),some (13,true)⟩,o 16 (.pick (.t 13) (.t 15) (.k (.c (.bool false)))),o 10 (.mv (.t 16))])
 (.keep [0,10] (.cond (.t 10) .skip
 (.seq (.ops [o 17 (.mv (.t 0)),o 18 (.bin 0 .eql (.t 17) (ki 20)),o 10 (.mv (.t 18))])
 (.cond (.t 10) .skip
 (.seq (.ops [o 19 (.mv (.t 0)),o 20 (.bin 0 .eql (.t 19) (ki 28)),o 10 (.mv (.t 20))])
 (.cond (.t 10) .skip
 (.ops [o 21 (.mv (.t 0)),o 22 (.bin 0 .eql (.t 21) (ki 35)),o 10 (.mv (.t 22))]))))))))
 (.cond (.t 10) (.seq (.ops [o 2 (.mv (ki 1))])
 .ret)
 (.seq (.seq (.ops [o 24 (.mv (.t 0)),o 25 (.bin 0 .geq (.t 24) (ki 12)),o 26 (.mv (.t 25)),⟨(some 27),(.mv (.t 0)),some (26,true)⟩,⟨(some 28),(.bin 0 .leq (.t 27) (ki 16)),some (26,true)⟩,o 29 (.pick (.t 26) (.t 28) (.k (.c (.bool false)))),o 23 (.mv (.t 29))])
 (.keep [0,23] (.cond (.t 23) .skip
 (.seq (.ops [o 30 (.mv (.t 0)),o 31 (.bin 0 .eql (.t 30) (ki 19)),o 23 (.mv (.t 31))])
 (.cond (.t 23) .skip
 (.seq (.ops [o 32 (.mv (.t 0)),o 33 (.bin 0 .eql (.t 32) (ki 21)),o 23 (.mv (.t 33))])
 (.cond (.t 23) .skip
 (.seq (.ops [o 34 (.mv (.t 0)),o 35 (.bin 0 .geq (.t 34) (ki 24)),o 36 (.mv (.t 35)),⟨(some 37),(.mv (.t 0)),some (36,true)⟩,⟨(some 38),(.bin 0 .leq (.t 37) (ki 27)),some (36,true)⟩,o 39 (.pick (.t 36) (.t 38) (.k (.c (.bool false)))),o 23 (.mv (.t 39))])
 (.keep [0,23] (.cond (.t 23) .skip
 (.ops [o 40 (.mv (.t 0)),o 41 (.bin 0 .geq (.t 40) (ki 29)),o 42 (.mv (.t 41)),⟨(some 43),(.mv (.t 0)),some (42,true)⟩,⟨(some 44),(.bin 0 .leq (.t 43) (ki 34)),some (42,true)⟩,o 45 (.pick (.t 42) (.t 44) (.k (.c (.bool false)))),o 23 (.mv (.t 45))])))))))))))
 (.cond (.t 23) (.seq (.ops [o 2 (.mv (ki 2))])
 .ret)
 .skip)))))))
 (.seq (.ops [o 2 (.mv (ki 0))])
 .ret))),
 [.tmp 2]⟩
def F22 : AFun := ⟨2,
 (.seq (.ops [o 4 (.mv (.k (.c (.bool false))))])
 (.seq (.seq (.ops [o 5 (.mv (.t 1))])
 (.block 0 (.seq (.ops [o 7 (.bin 0 .eql (.t 5) (ki 1)),o 6 (.mv (.t 7))])
 (.cond (.t 6) (.seq (.ops [o 8 (.mv (.t 0)),o 9 (.bin 0 .neq (.t 8) (ki 35)),o 4 (.mv (.t 9))])
 .ret)
 (.seq (.ops [o 11 (.bin 0 .eql (.t 5) (ki 2)),o 10 (.mv (.t 11))])
 (.cond (.t 10) (.seq (.ops [o 12 (.mv (.t 0)),o 13 (.bin 0 .geq (.t 12) (ki 24)),o 14 (.mv (.t 13)),⟨(some 15),(.mv (.t 0)),some (14,true)⟩,⟨(some 16),(.bin 0 .leq (.t 15) (ki 34)),some (14,true)⟩,o 17 (.pick (.t 14) (.t 16) (.k (.c (.bool false)))),o 4 (.mv (.t 17))])
 .ret)
 (.seq (.ops [o 19 (.bin 0 .eql (.t 5) (ki 3)),o 18 (.mv (.t 19))])
 (.cond (.t 18) (.seq (.ops [o 20 (.mv (.t 0)),o 21 (.bin 0 .geq (.t 20) (ki 33)),o 22 (.mv (.t 21)),⟨(some 23),(.mv (.t 0)),some (22,true)⟩,⟨(some 24),(.bin 0 .leq (.t 23) (ki 35)),some (22,true)⟩,o 25 (.pick (.t 22) (.t 24) (.k (.c (.bool false)))),o 4 (.mv (.t 25))])
 .ret)
 .skip))))))))
 (.keep [] (.seq (.ops [o 4 (.mv (.k (.c (.bool false))))])
 .ret)))),
 [.tmp 4]⟩
def F23 : AFun := ⟨1,
 (.seq (.ops [o 2 (.mv (.k (.c (.int .i32 0))))])
 (.seq (.seq (.ops [o 3 (.mv (.t 0))])
 (.cond (.t 3) (.seq (.ops [o 2 (.mv (.k (.c (.int .i32 1))))])
 .ret)
 .skip))
 (.seq (.ops [o 2 (.mv (.k (.c (.int .i32 0))))])
 .ret))),
 [.tmp 2]⟩
def F24 : AFun := ⟨3,
 (.seq (.ops [o 4 (.box (.t 1)),o 5 (.box (.t 2)),o 6 (.mv (.k (.c (.bool false))))])
 (.seq (.seq (.ops [o 8 (.mv (.t 0)),o 9 (.mv (ki 0))])
 (.block 0 (.loop [4,5,8,9] (.seq (.ops [o 10 (.bin 0 .lss (.t 9) (.t 8))])
 (.seq (.cond (.t 10) .skip
 (.exit 0))
 (.seq (.block 1 (.seq (.ops [o 11 (.mv (.t 9)),o 7 (.mv (.t 11))])
 (.seq (.dops [.op 0 (o 12 (.mv (.t 7))),.op 3 (o 15 (.mv (.t 7))),.op 1 (o 13 (.ixp 4 1 (.t 4) (.t 12))),.op 4 (o 16 (.ixp 4 1 (.t 5) (.t 15))),.op 2 (o 14 (.ld (.t 13))),.op 5 (o 17 (.ld (.t 16))),.op 6 (o 18 (.bin 0 .neq (.t 14) (.t 17)))])
 (.cond (.t 18) (.seq (.ops [o 6 (.mv (.k (.c (.bool false))))])
 .ret)
 .skip))))
 (.keep [4,5,8,9] (.ops [o 19 (.bin 0 .add (.t 9) (ki 1)),o 9 (.mv (.t 19))]))))))))
 (.seq (.ops [o 6 (.mv (.k (.c (.bool true))))])
 .ret))),
 [.tmp 6]⟩
def F25 : AFun := ⟨2,
 (.seq (.ops [o 4 (.alloc [(.int .i32 0),(.int .i32 0),(.int .i32 0),(.int .i32 0)])])
 (.seq (.ops [o 5 (.alloc [(.int .i32 0),(.int .i32 0),(.int .i32 0),(.int .i32 0)])])
 (.seq (.seq (.ops [o 7 (.mv (.t 0)),o 8 (.mv (ki 0))])
 (.block 0 (.loop [1,4,5,7,8] (.seq (.ops [o 9 (.bin 0 .lss (.t 8) (.t 7))])
 (.seq (.cond (.t 9) .skip
 (.exit 0))
 (.seq (.block 1 (.seq (.ops [o 10 (.mv (.t 8)),o 6 (.mv (.t 10))])
 (.ops [o 11 (.mv (.t 6)),o 12 (.mv (.t 1)),o 13 (.mv (.t 6)),o 14 (.callv (.t 12) [(.t 13)]),o 15 (.ixp 4 1 (.t 5) (.t 11)),e (.st 1 (.t 15) (.t 14))])))
 (.ops [o 16 (.bin 0 .add (.t 8) (ki 1)),o 8 (.mv (.t 16))])))))))
 (.keep [4,5] (.seq (.ops [o 17 (.ldn 4 (.t 5)),e (.st 4 (.t 4) (.t 17))])
 .ret))))),
 [.celln 4 4]⟩
def F26 : AFun := ⟨4,
 (.seq (.ops [o 5 (.mv (.k (.c (.int .i32 0))))])
 (.seq (.dops [.op 0 (o 6 (.ld (.t 1))),.op 1 (o 7 (.mv (.t 0))),.op 4 (o 10 (.mv (.t 0))),.op 2 (o 8 (.ixp 4 1 (.t 2) (.t 7))),.op 5 (o 11 (.ixp 4 1 (.t 3) (.t 10))),.op 3 (o 9 (.ld (.t 8))),.op 6 (o 12 (.ld (.t 11))),.eff 7 (o 13 (.call 27 [(.t 6),(.t 9),(.t 12)])) [],.op 8 (o 5 (.mv (.t 13)))])
 .ret)),
 [.tmp 5]⟩
def F27 : AFun := ⟨3,
 (.seq (.ops [o 6 (.mv (.k (.c (.int .i32 0))))])
 (.seq (.ops [o 9 (.mv (.t 1)),o 10 (.convi .i64 (.t 9)),o 11 (.mv (.t 2)),o 12 (.convi .i64 (.t 11)),o 7 (.mv (.t 10)),o 8 (.mv (.t 12))])
 (.seq (.seq (.ops [o 13 (.mv (.t 0))])
 (.block 0 (.seq (.ops [o 15 (.bin 0 .eql (.t 13) (ki 24)),o 14 (.mv (.t 15))])
 (.cond (.t 14) (.ops [o 16 (.mv (.t 7)),o 17 (.mv (.t 8)),o 18 (.bin 0 .add (.t 16) (.t 17)),o 7 (.mv (.t 18))])
 (.seq (.ops [o 20 (.bin 0 .eql (.t 13) (ki 25)),o 19 (.mv (.t 20))])
 (.keep [7,8,13,19] (.cond (.t 19) (.ops [o 21 (.mv (.t 7)),o 22 (.mv (.t 8)),o 23 (.bin 0 .sub (.t 21) (.t 22)),o 7 (.mv (.t 23))])
 (.seq (.ops [o 25 (.bin 0 .eql (.t 13) (ki 26)),o 24 (.mv (.t 25))])
 (.cond (.t 24) (.ops [o 26 (.mv (.t 7)),o 27 (.mv (.t 8)),o 28 (.bin 0 .mul (.t 26) (.t 27)),o 7 (.mv (.t 28))])
 (.seq (.ops [o 30 (.bin 0 .eql (.t 13) (ki 27)),o 29 (.mv (.t 30))])
 (.cond (.t 29) (.seq (.seq (.ops [o 31 (.mv (.t 8)),o 32 (.bin 0 .eql (.t 31) (ki 0))])
 (.cond (.t 32) (.seq (.ops [o 6 (.mv (.k (.c (.int .i32 0))))])
 .ret)
 .skip))
 (.ops [o 33 (.mv (.t 7)),o 34 (.mv (.t 8)),o 35 (.bin 0 .quo (.t 33) (.t 34)),o 7 (.mv (.t 35))]))
 (.seq (.ops [o 37 (.bin 0 .eql (.t 13) (ki 28)),o 36 (.mv (.t 37))])
 (.cond (.t 36) (.ops [o 38 (.mv (.t 7)),o 39 (.un .neg (.t 38)),o 7 (.mv (.t 39))])
 .skip)))))))))))))
 (.keep [7] (.seq (.ops [o 40 (.mv (.t 7)),o 41 (.call 64 [(.t 40)]),o 6 (.mv (.t 41))])
 .ret))))),
 [.tmp 6]⟩
def F28 : AFun := ⟨4,
 (.seq (.ops [o 4 (.box (.t 0)),o 6 (.box (.t 2)),o 7 (.box (.t 3)),o 8 (.alloc [(.int .i32 0),(.int .i32 0),(.int .i32 0),(.int .i32 0)]),o 9 (.mv (ki 0))])
 (.seq (.seq (.ops [o 13 (.ld (.t 4)),o 14 (.call 65 [(.t 13),(.k (.c (.int .i32 0))),(.k (.c (.int .i32 0)))]),o 12 (.mv (.t 14)),o 15 (.ext 0 (.t 12)),o 16 (.ext 1 (.t 12)),o 10 (.mv (.t 15)),o 11 (.mv (.t 16))])
 (.keep [1,4,6,7,8,11] (.seq (.ops [o 17 (.mv (.t 11)),o 18 (.un .not (.t 17)),o 19 (.mv (.t 18)),⟨(some 20),(.mv (.t 1)),some (19,false)⟩,⟨(some 21),(.call 66 [(.t 20)]),some (19,false)⟩,⟨(some 22),(.un .not (.t 21)),some (19,false)⟩,o 23 (.pick (.t 19) (.k (.c (.bool true))) (.t 22))])
 (.cond (.t 23) (.seq (.ops [o 24 (.agg [(.int .i32 0),(.int .i32 0),(.int .i32 0),(.int .i32 0)] []),e (.st 4 (.t 8) (.t 24)),o 9 (.mv (ki 2))])
 .ret)
 .skip))))
 (.keep [1,4,6,7,8] (.seq (.ops [o 25 (.mv (.t 1)),o 26 (.mkf 68 [] [(.t 4),(.t 6),(.t 7)]),o 27 (.call 67 [(.t 25),(.t 26)]),e (.st 4 (.t 8) (.t 27)),o 9 (.mv (ki 0))])
 .ret)))),
 [.celln 8 4,.tmp 9]⟩
def F29 : AFun := ⟨3,
 (.seq (.ops [o 3 (.box (.t 0)),o 5 (.box (.t 2)),o 6 (.alloc [(.int .i32 0),(.int .i32 0),(.int .i32 0),(.int .i32 0)]),o 7 (.mv (ki 0))])
 (.seq (.seq (.ops [o 11 (.ld (.t 3)),o 12 (.call 69 [(.t 11),(.k (.c (.int .i32 0)))]),o 10 (.mv (.t 12)),o 13 (.ext 0 (.t 10)),o 14 (.ext 1 (.t 10)),o 8 (.mv (.t 13)),o 9 (.mv (.t 14))])
 (.seq (.ops [o 15 (.mv (.t 9)),o 16 (.un .not (.t 15)),o 17 (.mv (.t 16)),⟨(some 18),(.mv (.t 1)),some (17,false)⟩,⟨(some 19),(.call 66 [(.t 18)]),some (17,false)⟩,⟨(some 20),(.un .not (.t 19)),some (17,false)⟩,o 21 (.pick (.t 17) (.k (.c (.bool true))) (.t 20))])
 (.keep [1,3,5,6,21] (.cond (.t 21) (.seq (.ops [o 22 (.agg [(.int .i32 0),(.int .i32 0),(.int .i32 0),(.int .i32 0)] []),e (.st 4 (.t 6) (.t 22)),o 7 (.mv (ki 2))])
 .ret)
 .skip))))
 (.seq (.ops [o 23 (.mv (.t 1)),o 24 (.mkf 70 [] [(.t 3),(.t 5)]),o 25 (.call 67 [(.t 23),(.t 24)]),e (.st 4 (.t 6) (.t 25)),o 7 (.mv (ki 0))])
 .ret))),
 [.celln 6 4,.tmp 7]⟩
def F30 : AFun := ⟨3,
 (.seq (.ops [o 4 (.mv (.k (.c (.int .i32 0))))])
 (.seq (.dops [.op 0 (o 5 (.mv (.t 0))),.op 3 (o 8 (.mv (.t 0))),.op 1 (o 6 (.ixp 4 1 (.t 1) (.t 5))),.op 4 (o 9 (.ixp 4 1 (.t 2) (.t 8))),.op 2 (o 7 (.ld (.t 6))),.op 5 (o 10 (.ld (.t 9))),.eff 6 (o 11 (.call 31 [(.t 7),(.t 10)])) [],.op 7 (o 4 (.mv (.t 11)))])
 .ret)),
 [.tmp 4]⟩
def F31 : AFun := ⟨2,
 (.seq (.ops [o 4 (.mv (.k (.c (.int .i32 0))))])
 (.seq (.seq (.ops [o 5 (.mv (.t 0)),o 6 (.bin 0 .leq (.t 5) (.k (.c (.int .i32 0))))])
 (.cond (.t 6) (.seq (.ops [o 4 (.mv (.k (.c (.int .i32 0))))])
 .ret)
 .skip))
 (.seq (.ops [o 7 (.mv (.t 1)),o 8 (.mv (.t 0)),o 9 (.call 73 [(.t 8)]),o 10 (.call 72 [(.t 7),(.t 9)]),o 11 (.call 71 [(.t 10)]),o 4 (.mv (.t 11))])
 .ret))),
 [.tmp 4]⟩
def F32 : AFun := ⟨4,
 (.seq (.ops [o 5 (.box (.t 1)),o 6 (.box (.t 2)),o 7 (.box (.t 3)),o 8 (.alloc [(.int .i32 0),(.int .i32 0),(.int .i32 0),(.int .i32 0)]),o 9 (.mv (ki 0))])
 (.seq (.seq (.ops [o 10 (.mv (.t 0)),o 11 (.call 66 [(.t 10)]),o 12 (.un .not (.t 11))])
 (.cond (.t 12) (.seq (.ops [o 13 (.agg [(.int .i32 0),(.int .i32 0),(.int .i32 0),(.int .i32 0)] []),e (.st 4 (.t 8) (.t 13)),o 9 (.mv (ki 2))])
 .ret)
 .skip))
 (.keep [0,5,6,7,8] (.seq (.ops [o 14 (.mv (.t 0)),o 15 (.mkf 74 [] [(.t 5),(.t 6),(.t 7)]),o 16 (.call 67 [(.t 14),(.t 15)]),e (.st 4 (.t 8) (.t 16)),o 9 (.mv (ki 0))])
 .ret)))),
 [.celln 8 4,.tmp 9]⟩
def F33 : AFun := ⟨4,
 (.seq (.ops [o 5 (.box (.t 1)),o 6 (.box (.t 2)),o 7 (.box (.t 3)),o 8 (.alloc [(.int .i32 0),(.int .i32 0),(.int .i32 0),(.int .i32 0)]),o 9 (.mv (ki 0))])
 (.seq (.seq (.ops [o 10 (.mv (.t 0)),o 11 (.call 66 [(.t 10)]),o 12 (.un .not (.t 11))])
 (.cond (.t 12) (.seq (.ops [o 13 (.agg [(.int .i32 0),(.int .i32 0),(.int .i32 0),(.int .i32 0)] []),e (.st 4 (.t 8) (.t 13)),o 9 (.mv (ki 2))])
 .ret)
 .skip))
 (.keep [0,5,6,7,8] (.seq (.ops [o 14 (.mv (.t 0)),o 15 (.mkf 77 [] [(.t 5),(.t 6),(.t 7)]),o 16 (.call 67 [(.t 14),(.t 15)]),e (.st 4 (.t 8) (.t 16)),o 9 (.mv (ki 0))])
 .ret)))),
 [.celln 8 4,.tmp 9]⟩
def F34 : AFun := ⟨3,
 (.seq (.ops [o 4 (.box (.t 1)),o 5 (.box (.t 2)),o 6 (.mv (.k (.c (.int .i32 0)))),o 7 (.mv (ki 0))])
 (.seq (.seq (.ops [o 10 (.mv (.t 0)),o 11 (.call 66 [(.t 10)]),o 12 (.un .not (.t 11))])
 (.cond (.t 12) (.seq (.ops [o 6 (.mv (.k (.c (.int .i32 0)))),o 7 (.mv (ki 2))])
 .ret)
 .skip))
 (.seq (.ops [o 13 (.ixp 4 1 (.t 4) (ki 0)),o 14 (.ld (.t 13)),o 15 (.ixp 4 1 (.t 5) (ki 0)),o 16 (.ld (.t 15)),o 17 (.call 72 [(.t 14),(.t 16)]),o 8 (.mv (.t 17))])
 (.keep [0,4,5,8] (.seq (.seq (.ops [o 9 (.mv (ki 1))])
 (.block 0 (.loop [0,4,5,8,9] (.seq (.seq (.ops [o 18 (.mv (.t 9)),o 19 (.mv (.t 0)),o 20 (.bin 0 .lss (.t 18) (.t 19))])
 (.cond (.t 20) .skip
 (.exit 0)))
 (.seq (.block 1 (.dops [.op 0 (o 23 (.mv (.t 8))),.op 1 (o 24 (.mv (.t 9))),.op 4 (o 27 (.mv (.t 9))),.op 2 (o 25 (.ixp 4 1 (.t 4) (.t 24))),.op 5 (o 28 (.ixp 4 1 (.t 5) (.t 27))),.op 3 (o 26 (.ld (.t 25))),.op 6 (o 29 (.ld (.t 28))),.eff 7 (o 30 (.call 72 [(.t 26),(.t 29)])) [],.eff 8 (o 31 (.call 75 [(.t 23),(.t 30)])) [],.eff 9 (o 8 (.mv (.t 31))) []]))
 (.keep [0,4,5,8,9] (.ops [o 21 (.mv (.t 9)),o 22 (.bin 0 .add (.t 21) (ki 1)),o 9 (.mv (.t 22))])))))))
 (.seq (.ops [o 32 (.mv (.t 8)),o 6 (.mv (.t 32)),o 7 (.mv (ki 0))])
 .ret)))))),
 [.tmp 6,.tmp 7]⟩
def F35 : AFun := ⟨2,
 (.seq (.ops [o 2 (.box (.t 0)),o 3 (.box (.t 1)),o 4 (.alloc [(.int .i32 0),(.int .i32 0),(.int .i32 0),(.int .i32 0)])])
 (.seq (.ops [o 5 (.mkf 78 [] [(.t 2),(.t 3)]),o 6 (.call 67 [(ki 3),(.t 5)]),e (.st 4 (.t 4) (.t 6))])
 .ret)),
 [.celln 4 4]⟩
def F36 : AFun := ⟨2,
 (.seq (.ops [o 2 (.box (.t 0)),o 4 (.alloc [(.int .i32 0),(.int .i32 0),(.int .i32 0),(.int .i32 0)])])
 (.seq (.ops [o 5 (.alloc [(.int .i32 0),(.int .i32 0),(.int .i32 0),(.int .i32 0)])])
 (.seq (.ops [o 8 (.ldn 4 (.t 2)),o 9 (.mv (.t 1)),o 10 (.call 37 [(.t 8),(.t 9)]),o 6 (.mv (.t 10))])
 (.seq (.seq (.ops [o 11 (.mv (.t 6)),o 12 (.bin 0 .eql (.t 11) (.k (.c (.int .i32 0))))])
 (.cond (.t 12) (.seq (.ops [o 13 (.ldn 4 (.t 5)),e (.st 4 (.t 4) (.t 13))])
 .ret)
 .skip))
 (.seq (.seq (.ops [o 14 (.mv (.t 1)),o 15 (.mx [(.t 14),(ki 0)]),o 16 (.mn [(.t 15),(ki 4)]),o 17 (.mv (ki 0))])
 (.block 0 (.loop [2,4,5,6,16,17] (.seq (.ops [o 18 (.bin 0 .lss (.t 17) (.t 16))])
 (.seq (.cond (.t 18) .skip
 (.exit 0))
 (.seq (.block 1 (.seq (.ops [o 19 (.mv (.t 17)),o 7 (.mv (.t 19))])
 (.ops [o 20 (.mv (.t 7)),o 21 (.mv (.t 7)),o 22 (.ixp 4 1 (.t 2) (.t 21)),o 23 (.ld (.t 22)),o 24 (.mv (.t 6)),o 25 (.call 79 [(.t 23),(.t 24)]),o 26 (.ixp 4 1 (.t 5) (.t 20)),e (.st 1 (.t 26) (.t 25))])))
 (.keep [2,4,5,6,16,17] (.ops [o 27 (.bin 0 .add (.t 17) (ki 1)),o 17 (.mv (.t 27))]))))))))
 (.seq (.ops [o 28 (.ldn 4 (.t 5)),e (.st 4 (.t 4) (.t 28))])
 .ret)))))),
 [.celln 4 4]⟩
def F37 : AFun := ⟨2,
 (.seq (.ops [o 2 (.box (.t 0)),o 4 (.mv (.k (.c (.int .i32 0))))])
 (.seq (.ops [o 5 (.alloc [(.int .u64 0)]),o 6 (.alloc [(.int .u64 0)]),e (.st 1 (.t 5) (.k (.c (.int .u64 0)))),e (.st 1 (.t 6) (.k (.c (.int .u64 0))))])
 (.seq (.ops [o 10 (.mkf 80 [] [(.t 5),(.t 6)]),o 7 (.mv (.t 10))])
 (.seq (.seq (.ops [o 11 (.mv (.t 1)),o 12 (.mx [(.t 11),(ki 0)]),o 13 (.mn [(.t 12),(ki 4)]),o 14 (.slca 4 1 (.t 2) none (some (.t 13))),o 15 (.len 1 (.t 14)),o 16 (.mv (ki 0))])
 (.block 0 (.loop [5,6,7,14,15,16] (.seq (.ops [o 17 (.bin 0 .lss (.t 16) (.t 15))])
 (.seq (.cond (.t 17) .skip
 (.exit 0))
 (.seq (.block 1 (.seq (.ops [o 18 (.ixa 1 (.t 14) (.t 16)),o 19 (.ld (.t 18)),o 9 (.mv (.t 19))])
 (.ops [o 20 (.mv (.t 7)),o 21 (.mv (.t 9)),o 22 (.callv (.t 20) [(.t 21)])])))
 (.ops [o 23 (.bin 0 .add (.t 16) (ki 1)),o 16 (.mv (.t 23))])))))))
 (.keep [5,6] (.seq (.seq (.ops [o 24 (.ld (.t 6)),o 25 (.bin 0 .gtr (.t 24) (.k (.c (.int .u64 0))))])
 (.cond (.t 25) (.seq (.ops [o 4 (.mv (.k (.c (.int .i32 2147483647))))])
 .ret)
 .skip))
 (.seq (.ops [o 26 (.ld (.t 5)),o 27 (.call 83 [(.t 26)]),o 28 (.convi .i64 (.t 27)),o 29 (.call 82 [(.t 28)]),o 4 (.mv (.t 29))])
 .ret))))))),
 [.tmp 4]⟩
def F38 : AFun := ⟨1,
 (.seq (.ops [o 2 (.mv (.k (.c .nilfn)))])
 (.seq (.seq (.ops [o 3 (.mv (.t 0))])
 (.block 0 (.seq (.ops [o 5 (.bin 0 .eql (.t 3) (ki 5)),o 4 (.mv (.t 5))])
 (.cond (.t 4) (.seq (.ops [o 2 (.mv (.f 84))])
 .ret)
 (.seq (.ops [o 7 (.bin 0 .eql (.t 3) (ki 6)),o 6 (.mv (.t 7))])
 (.cond (.t 6) (.seq (.ops [o 2 (.mv (.f 85))])
 .ret)
 (.seq (.ops [o 9 (.bin 0 .eql (.t 3) (ki 7)),o 8 (.mv (.t 9))])
 (.cond (.t 8) (.seq (.ops [o 2 (.mv (.f 71))])
 .ret)
 (.seq (.ops [o 11 (.bin 0 .eql (.t 3) (ki 8)),o 10 (.mv (.t 11))])
 (.cond (.t 10) (.seq (.ops [o 2 (.mv (.f 73))])
 .ret)
 (.seq (.ops [o 13 (.bin 0 .eql (.t 3) (ki 9)),o 12 (.mv (.t 13))])
 (.cond (.t 12) (.seq (.ops [o 2 (.mv (.f 86))])
 .ret)
 (.seq (.ops [o 15 (.bin 0 .eql (.t 3) (ki 10)),o 14 (.mv (.t 15))])
 (.keep [14] (.cond (.t 14) (.seq (.ops [o 2 (.mv (.f 87))])
 .ret)
 .skip)))))))))))))))
 (.seq (.ops [o 2 (.mv (.k (.c .nilfn)))])
 .ret))),
 [.tmp 2]⟩
def F39 : AFun := ⟨3,
 (.seq (.ops [o 4 (.mv (.k (.c (.int .i32 0))))])
 (.seq (.dops [.op 0 (o 5 (.ld (.t 1))),.op 1 (o 6 (.mv (.t 0))),.op 2 (o 7 (.ixp 4 1 (.t 2) (.t 6))),.op 3 (o 8 (.ld (.t 7))),.eff 4 (o 9 (.callv (.t 5) [(.t 8)])) [],.op 5 (o 4 (.mv (.t 9)))])
 .ret)),
 [.tmp 4]⟩
def F40 : AFun := ⟨1,
 (.seq (.ops [o 2 (.mv (.k (.c (.int .i32 0))))])
 (.seq (.seq (.ops [o 3 (.mv (.t 0))])
 (.cond (.t 3) (.seq (.ops [o 2 (.mv (.k (.c (.int .i32 1))))])
 .ret)
 .skip))
 (.seq (.ops [o 2 (.mv (.k (.c (.int .i32 0))))])
 .ret))),
 [.tmp 2]⟩
def F41 : AFun := ⟨3,
 (.seq (.ops [o 4 (.box (.t 1)),o 5 (.box (.t 2)),o 6 (.mv (.k (.c (.bool false))))])
 (.seq (.seq (.ops [o 7 (.mv (ki 0))])
 (.block 0 (.loop [0,4,5,7] (.seq (.seq (.ops [o 8 (.mv (.t 7)),o 9 (.mv (.t 0)),o 10 (.bin 0 .lss (.t 8) (.t 9))])
 (.cond (.t 10) .skip
 (.exit 0)))
 (.seq (.block 1 (.seq (.dops [.op 0 (o 13 (.mv (.t 7))),.op 3 (o 16 (.mv (.t 7))),.op 1 (o 14 (.ixp 4 1 (.t 4) (.t 13))),.op 4 (o 17 (.ixp 4 1 (.t 5) (.t 16))),.op 2 (o 15 (.ld (.t 14))),.op 5 (o 18 (.ld (.t 17))),.op 6 (o 19 (.bin 0 .neq (.t 15) (.t 18)))])
 (.cond (.t 19) (.seq (.ops [o 6 (.mv (.k (.c (.bool false))))])
 .ret)
 .skip)))
 (.keep [0,4,5,7] (.ops [o 11 (.mv (.t 7)),o 12 (.bin 0 .add (.t 11) (ki 1)),o 7 (.mv (.t 12))])))))))
 (.seq (.ops [o 6 (.mv (.k (.c (.bool true))))])
 .ret))),
 [.tmp 6]⟩
def F42 : AFun := ⟨2,
 (.seq (.ops [o 2 (.box (.t 0)),o 4 (.alloc [(.int .i32 0),(.int .i32 0),(.int .i32 0),(.int .i32 0)])])
 (.seq (.ops [o 5 (.alloc [(.int .i32 0),(.int .i32 0),(.int .i32 0),(.int .i32 0)])])
 (.seq (.ops [o 8 (.ldn 4 (.t 2)),o 9 (.mv (.t 1)),o 10 (.call 46 [(.t 8),(.t 9)]),o 6 (.mv (.t 10))])
 (.seq (.seq (.ops [o 7 (.mv (ki 0))])
 (.block 0 (.loop [1,2,4,5,6,7] (.seq (.seq (.ops [o 11 (.mv (.t 7)),o 12 (.mv (.t 1)),o 13 (.mn [(.t 12),(ki 4)]),o 14 (.bin 0 .lss (.t 11) (.t 13)),o 15 (.mv (.t 14)),⟨(some 16),(.mv (.t 6)),some (15,true)⟩,⟨(some 17),(.bin 0 .neq (.t 16) (.k (.c (.int .i32 0)))),some (15,true)⟩,o 18 (.pick (.t 15) (.t 17) (.k (.c (.bool false))))])
 (.cond (.t 18) .skip
 (.exit 0)))
 (.seq (.block 1 (.ops [o 21 (.mv (.t 7)),o 22 (.mv (.t 7)),o 23 (.ixp 4 1 (.t 2) (.t 22)),o 24 (.ld (.t 23)),o 25 (.mv (.t 6)),o 26 (.call 88 [(.t 24),(.t 25)]),o 27 (.ixp 4 1 (.t 5) (.t 21)),e (.st 1 (.t 27) (.t 26))]))
 (.keep [1,2,4,5,6,7] (.ops [o 19 (.mv (.t 7)),o 20 (.bin 0 .add (.t 19) (ki 1)),o 7 (.mv (.t 20))])))))))
 (.seq (.ops [o 28 (.ldn 4 (.t 5)),e (.st 4 (.t 4) (.t 28))])
 .ret))))),
 [.celln 4 4]⟩
def F43 : AFun := ⟨4,
 (.seq (.ops [o 5 (.box (.t 1)),o 6 (.box (.t 2)),o 7 (.box (.t 3)),o 8 (.alloc [(.int .i32 0),(.int .i32 0),(.int .i32 0),(.int .i32 0)])])
 (.seq (.dops [.op 0 (o 9 (.mv (.t 0))),.op 1 (o 10 (.ldn 4 (.t 5))),.op 2 (o 11 (.mv (.t 0))),.op 3 (o 12 (.mv (.t 0))),.op 4 (o 13 (.ldn 4 (.t 6))),.op 5 (o 14 (.ldn 4 (.t 5))),.op 7 (o 16 (.ldn 4 (.t 7))),.eff 6 (o 15 (.call 89 [(ki 1),(.t 12),(.t 13),(.t 14)])) [o 10 (.ldn 4 (.t 5)),o 16 (.ldn 4 (.t 7))],.eff 8 (o 17 (.call 89 [(ki 2),(.t 11),(.t 15),(.t 16)])) [o 10 (.ldn 4 (.t 5))],.eff 9 (o 18 (.call 89 [(ki 0),(.t 9),(.t 10),(.t 17)])) [],.eff 10 (e (.st 4 (.t 8) (.t 18))) []])
 .ret)),
 [.celln 8 4]⟩
def F44 : AFun := ⟨4,
 (.seq (.ops [o 5 (.box (.t 1)),o 6 (.box (.t 2)),o 7 (.box (.t 3)),o 8 (.alloc [(.int .i32 0),(.int .i32 0),(.int .i32 0),(.int .i32 0)])])
 (.seq (.dops [.op 0 (o 9 (.mv (.t 0))),.op 1 (o 10 (.mv (.t 0))),.op 2 (o 11 (.ldn 4 (.t 5))),.op 3 (o 12 (.ldn 4 (.t 6))),.op 5 (o 14 (.ldn 4 (.t 7))),.eff 4 (o 13 (.call 89 [(ki 5),(.t 10),(.t 11),(.t 12)])) [o 14 (.ldn 4 (.t 7))],.eff 6 (o 15 (.call 89 [(ki 4),(.t 9),(.t 13),(.t 14)])) [],.eff 7 (e (.st 4 (.t 8) (.t 15))) []])
 .ret)),
 [.celln 8 4]⟩
def F45 : AFun := ⟨3,
 (.seq (.ops [o 4 (.box (.t 1)),o 5 (.box (.t 2)),o 6 (.mv (.k (.c (.int .i32 0))))])
 (.seq (.ops [o 10 (.mv (.t 0)),o 11 (.ldn 4 (.t 4)),o 12 (.ldn 4 (.t 5)),o 13 (.call 89 [(ki 2),(.t 10),(.t 11),(.t 12)]),o 7 (.alloc [(.int .i32 0),(.int .i32 0),(.int .i32 0),(.int .i32 0)]),e (.st 4 (.t 7) (.t 13))])
 (.seq (.ops [o 14 (.ixp 4 1 (.t 7) (ki 0)),o 15 (.ld (.t 14)),o 8 (.mv (.t 15))])
 (.keep [0,7,8] (.seq (.seq (.ops [o 9 (.mv (ki 1))])
 (.block 0 (.loop [0,7,8,9] (.seq (.seq (.ops [o 16 (.mv (.t 9)),o 17 (.mv (.t 0)),o 18 (.bin 0 .lss (.t 16) (.t 17))])
 (.cond (.t 18) .skip
 (.exit 0)))
 (.seq (.block 1 (.ops [o 21 (.mv (.t 8)),o 22 (.mv (.t 9)),o 23 (.ixp 4 1 (.t 7) (.t 22)),o 24 (.ld (.t 23)),o 25 (.call 90 [(.t 21),(.t 24)]),o 8 (.mv (.t 25))]))
 (.ops [o 19 (.mv (.t 9)),o 20 (.bin 0 .add (.t 19) (ki 1)),o 9 (.mv (.t 20))]))))))
 (.keep [8] (.seq (.ops [o 26 (.mv (.t 8)),o 6 (.mv (.t 26))])
 .ret))))))),
 [.tmp 6]⟩
def F46 : AFun := ⟨2,
 (.seq (.ops [o 2 (.box (.t 0)),o 4 (.mv (.k (.c (.int .i32 0))))])
 (.seq (.ops [o 5 (.mv (.k (.c (.int .u64 0))))])
 (.seq (.seq (.ops [o 6 (.mv (ki 0))])
 (.block 0 (.loop [1,2,5,6] (.seq (.seq (.ops [o 8 (.mv (.t 6)),o 9 (.mv (.t 1)),o 10 (.mn [(.t 9),(ki 4)]),o 11 (.bin 0 .lss (.t 8) (.t 10))])
 (.cond (.t 11) .skip
 (.exit 0)))
 (.seq (.block 1 (.seq (.ops [o 14 (.mv (.t 6)),o 15 (.ixp 4 1 (.t 2) (.t 14)),o 16 (.ld (.t 15)),o 17 (.convi .i64 (.t 16)),o 7 (.mv (.t 17))])
 (.seq (.ops [o 18 (.mv (.t 5)),o 19 (.mv (.t 7)),o 20 (.mv (.t 7)),o 21 (.bin 0 .mul (.t 19) (.t 20)),o 22 (.convi .u64 (.t 21)),o 23 (.bin 0 .add (.t 18) (.t 22)),o 5 (.mv (.t 23))])
 (.keep [1,2,5,6] (.seq (.ops [o 24 (.mv (.t 5)),o 25 (.bin 0 .geq (.t 24) (.k (.c (.int .u64 4611686018427387904))))])
 (.cond (.t 25) (.seq (.ops [o 4 (.mv (.k (.c (.int .i32 2147483647))))])
 .ret)
 .skip))))))
 (.ops [o 12 (.mv (.t 6)),o 13 (.bin 0 .add (.t 12) (ki 1)),o 6 (.mv (.t 13))]))))))
 (.seq (.ops [o 26 (.mv (.t 5)),o 27 (.call 92 [(.t 26)]),o 28 (.convi .i64 (.t 27)),o 29 (.call 91 [(.t 28)]),o 4 (.mv (.t 29))])
 .ret)))),
 [.tmp 4]⟩
def F47 : AFun := ⟨2,
 (.seq (.ops [o 2 (.box (.t 0)),o 3 (.box (.t 1)),o 4 (.alloc [(.int .i32 0),(.int .i32 0),(.int .i32 0),(.int .i32 0)])])
 (.seq (.dops [.op 0 (o 5 (.ixp 4 1 (.t 2) (ki 1))),.op 2 (o 7 (.ixp 4 1 (.t 3) (ki 2))),.op 4 (o 9 (.ixp 4 1 (.t 2) (ki 2))),.op 6 (o 11 (.ixp 4 1 (.t 3) (ki 1))),.op 9 (o 14 (.ixp 4 1 (.t 2) (ki 2))),.op 11 (o 16 (.ixp 4 1 (.t 3) (ki 0))),.op 13 (o 18 (.ixp 4 1 (.t 2) (ki 0))),.op 15 (o 20 (.ixp 4 1 (.t 3) (ki 2))),.op 18 (o 23 (.ixp 4 1 (.t 2) (ki 0))),.op 20 (o 25 (.ixp 4 1 (.t 3) (ki 1))),.op 22 (o 27 (.ixp 4 1 (.t 2) (ki 1))),.op 24 (o 29 (.ixp 4 1 (.t 3) (ki 0))),.op 1 (o 6 (.ld (.t 5))),.op 3 (o 8 (.ld (.t 7))),.op 5 (o 10 (.ld (.t 9))),.op 7 (o 12 (.ld (.t 11))),.op 10 (o 15 (.ld (.t 14))),.op 12 (o 17 (.ld (.t 16))),.op 14 (o 19 (.ld (.t 18))),.op 16 (o 21 (.ld (.t 20))),.op 19 (o 24 (.ld (.t 23))),.op 21 (o 26 (.ld (.t 25))),.op 23 (o 28 (.ld (.t 27))),.op 25 (o 30 (.ld (.t 29))),.eff 8 (o 13 (.call 93 [(.t 6),(.t 8),(.t 10),(.t 12)])) [o 15 (.ld (.t 14)),o 17 (.ld (.t 16)),o 19 (.ld (.t 18)),o 21 (.ld (.t 20)),o 24 (.ld (.t 23)),o 26 (.ld (.t 25)),o 28 (.ld (.t 27)),o 30 (.ld (.t 29))],.eff 17 (o 22 (.call 93 [(.t 15),(.t 17),(.t 19),(.t 21)])) [o 24 (.ld (.t 23)),o 26 (.ld (.t 25)),o 28 (.ld (.t 27)),o 30 (.ld (.t 29))],.eff 26 (o 31 (.call 93 [(.t 24),(.t 26),(.t 28),(.t 30)])) [],.op 27 (o 32 (.agg [(.int .i32 0),(.int .i32 0),(.int .i32 0),(.int .i32 0)] [(0,1,(.t 13)),(1,1,(.t 22)),(2,1,(.t 31))])),.eff 28 (e (.st 4 (.t 4) (.t 32))) []])
 .ret)),
 [.celln 4 4]⟩
def F48 : AFun := ⟨3,
 (.seq (.ops [o 6 (.mv (.k (.c (.int .i32 0))))])
 (.seq (.seq (.ops [o 7 (.mv (.t 0)),o 8 (.bin 0 .eql (.t 7) (ki 24))])
 (.cond (.t 8) (.seq (.ops [o 9 (.mv (.t 1)),o 10 (.mv (.t 2)),o 11 (.bin 0 .add (.t 9) (.t 10)),o 12 (.call 94 [(.t 11)]),o 6 (.mv (.t 12))])
 .ret)
 .skip))
 (.seq (.seq (.ops [o 13 (.mv (.t 0)),o 14 (.bin 0 .eql (.t 13) (ki 25))])
 (.cond (.t 14) (.seq (.ops [o 15 (.mv (.t 1)),o 16 (.mv (.t 2)),o 17 (.bin 0 .sub (.t 15) (.t 16)),o 18 (.call 94 [(.t 17)]),o 6 (.mv (.t 18))])
 .ret)
 .skip))
 (.keep [0,1,2] (.seq (.seq (.ops [o 19 (.mv (.t 0)),o 20 (.bin 0 .eql (.t 19) (ki 26))])
 (.cond (.t 20) (.seq (.ops [o 21 (.mv (.t 1)),o 22 (.mv (.t 2)),o 23 (.bin 0 .mul (.t 21) (.t 22)),o 24 (.call 94 [(.t 23)]),o 6 (.mv (.t 24))])
 .ret)
 .skip))
 (.seq (.seq (.ops [o 25 (.mv (.t 0)),o 26 (.bin 0 .eql (.t 25) (ki 28))])
 (.cond (.t 26) (.seq (.ops [o 27 (.mv (.t 1)),o 28 (.un .neg (.t 27)),o 29 (.call 94 [(.t 28)]),o 6 (.mv (.t 29))])
 .ret)
 .skip))
 (.keep [1,2] (.seq (.seq (.ops [o 30 (.mv (.t 2)),o 31 (.bin 0 .eql (.t 30) (ki 0))])
 (.cond (.t 31) (.seq (.ops [o 6 (.mv (.k (.c (.int .i32 0))))])
 .ret)
 .skip))
 (.seq (.ops [o 32 (.mv (.t 1)),o 33 (.mv (.t 2)),o 34 (.bin 0 .quo (.t 32) (.t 33)),o 35 (.call 94 [(.t 34)]),o 6 (.mv (.t 35))])
 .ret))))))))),
 [.tmp 6]⟩
def F49 : AFun := ⟨3,
 (.seq (.ops [o 6 (.mv (.k (.c (.int .i32 0))))])
 (.seq (.seq (.ops [o 7 (.mv (.t 0)),o 8 (.bin 0 .eql (.t 7) (ki 0))])
 (.cond (.t 8) (.seq (.ops [o 9 (.mv (.t 1)),o 10 (.mv (.t 2)),o 11 (.call 90 [(.t 9),(.t 10)]),o 6 (.mv (.t 11))])
 .ret)
 .skip))
 (.seq (.seq (.ops [o 12 (.mv (.t 0)),o 13 (.bin 0 .eql (.t 12) (ki 1))])
 (.cond (.t 13) (.seq (.ops [o 14 (.mv (.t 1)),o 15 (.mv (.t 2)),o 16 (.call 95 [(.t 14),(.t 15)]),o 6 (.mv (.t 16))])
 .ret)
 .skip))
 (.keep [0,1,2] (.seq (.seq (.ops [o 17 (.mv (.t 0)),o 18 (.bin 0 .eql (.t 17) (ki 2))])
 (.cond (.t 18) (.seq (.ops [o 19 (.mv (.t 1)),o 20 (.mv (.t 2)),o 21 (.call 96 [(.t 19),(.t 20)]),o 6 (.mv (.t 21))])
 .ret)
 .skip))
 (.seq (.seq (.ops [o 22 (.mv (.t 0)),o 23 (.bin 0 .eql (.t 22) (ki 3))])
 (.cond (.t 23) (.seq (.ops [o 24 (.mv (.t 1)),o 25 (.mv (.t 2)),o 26 (.call 88 [(.t 24),(.t 25)]),o 6 (.mv (.t 26))])
 .ret)
 .skip))
 (.keep [0,1,2] (.seq (.seq (.ops [o 27 (.mv (.t 0)),o 28 (.bin 0 .eql (.t 27) (ki 4)),o 29 (.mv (.t 28)),⟨(some 30),(.mv (.t 1)),some (29,true)⟩,⟨(some 31),(.mv (.t 2)),some (29,true)⟩,⟨(some 32),(.bin 0 .lss (.t 30) (.t 31)),some (29,true)⟩,o 33 (.pick (.t 29) (.t 32) (.k (.c (.bool false)))),o 34 (.mv (.t 33)),⟨(some 35),(.mv (.t 0)),some (34,false)⟩,⟨(some 36),(.bin 0 .eql (.t 35) (ki 5)),some (34,false)⟩,⟨(some 37),(.mv (.t 36)),some (34,false)⟩,⟨(some 38),(.mv (.t 1)),some (37,true)⟩,⟨(some 39),(.mv (.t 2)),some (37,true)⟩,⟨(some 40),(.bin 0 .gtr (.t 38) (.t 39)),some (37,true)⟩,⟨(some 41),(.pick (.t 37) (.t 40) (.k (.c (.bool false)))),some (34,false)⟩,o 42 (.pick (.t 34) (.k (.c (.bool true))) (.t 41))])
 (.keep [0,1,2,42] (.cond (.t 42) (.seq (.ops [o 43 (.mv (.t 1)),o 6 (.mv (.t 43))])
 .ret)
 .skip)))
 (.seq (.seq (.ops [o 44 (.mv (.t 0)),o 45 (.bin 0 .eql (.t 44) (ki 4)),o 46 (.mv (.t 45)),⟨(some 47),(.mv (.t 0)),some (46,false)⟩,⟨(some 48),(.bin 0 .eql (.t 47) (ki 5)),some (46,false)⟩,o 49 (.pick (.t 46) (.k (.c (.bool true))) (.t 48))])
 (.cond (.t 49) (.seq (.ops [o 50 (.mv (.t 2)),o 6 (.mv (.t 50))])
 .ret)
 .skip))
 (.seq (.seq (.ops [o 51 (.mv (.t 0)),o 52 (.bin 0 .eql (.t 51) (ki 6))])
 (.keep [1,2,52] (.cond (.t 52) (.seq (.ops [o 53 (.mv (.t 1)),o 54 (.mv (.t 2)),o 55 (.mv (.t 1)),o 56 (.mv (.t 2)),o 57 (.call 88 [(.t 55),(.t 56)]),o 58 (.call 97 [(.t 57)]),o 59 (.call 96 [(.t 54),(.t 58)]),o 60 (.call 95 [(.t 53),(.t 59)]),o 6 (.mv (.t 60))])
 .ret)
 .skip)))
 (.seq (.seq (.ops [o 61 (.mv (.t 2)),o 62 (.mv (.t 1)),o 63 (.bin 0 .lss (.t 61) (.t 62))])
 (.keep [63] (.cond (.t 63) (.seq (.ops [o 6 (.mv (.k (.c (.int .i32 0))))])
 .ret)
 .skip)))
 (.seq (.ops [o 6 (.mv (.k (.c (.int .i32 65536))))])
 .ret)))))))))))),
 [.tmp 6]⟩
def F50 : AFun := ⟨1,
 (.seq (.ops [o 2 (.mv (.k (.c (.int .i32 0))))])
 (.seq (.ops [o 3 (.mv (.t 0)),o 4 (.convi .i64 (.t 3)),o 5 (.un .neg (.t 4)),o 6 (.call 91 [(.t 5)]),o 2 (.mv (.t 6))])
 .ret)),
 [.tmp 2]⟩
def F51 : AFun := ⟨2,
 (.seq (.ops [o 4 (.mv (.k (.c (.int .i32 0))))])
 (.seq (.seq (.ops [o 5 (.mv (.t 0)),o 6 (.bin 0 .leq (.t 5) (.k (.c (.int .i32 0))))])
 (.cond (.t 6) (.seq (.ops [o 4 (.mv (.k (.c (.int .i32 0))))])
 .ret)
 .skip))
 (.seq (.ops [o 7 (.mv (.t 1)),o 8 (.mv (.t 0)),o 9 (.call 99 [(.t 8)]),o 10 (.call 96 [(.t 7),(.t 9)]),o 11 (.call 98 [(.t 10)]),o 4 (.mv (.t 11))])
 .ret))),
 [.tmp 4]⟩
def F52 : AFun := ⟨2,
 (.seq (.ops [o 4 (.mv (.k (.c (.int .i32 0))))])
 (.seq (.seq (.ops [o 5 (.mv (.t 0)),o 6 (.bin 0 .eql (.t 5) (ki 5))])
 (.cond (.t 6) (.seq (.ops [o 7 (.mv (.t 1)),o 8 (.call 100 [(.t 7)]),o 4 (.mv (.t 8))])
 .ret)
 .skip))
 (.seq (.seq (.ops [o 9 (.mv (.t 0)),o 10 (.bin 0 .eql (.t 9) (ki 6))])
 (.cond (.t 10) (.seq (.ops [o 11 (.mv (.t 1)),o 12 (.call 101 [(.t 11)]),o 4 (.mv (.t 12))])
 .ret)
 .skip))
 (.seq (.seq (.ops [o 13 (.mv (.t 0)),o 14 (.bin 0 .eql (.t 13) (ki 7))])
 (.keep [0,1,14] (.cond (.t 14) (.seq (.ops [o 15 (.mv (.t 1)),o 16 (.call 98 [(.t 15)]),o 4 (.mv (.t 16))])
 .ret)
 .skip)))
 (.seq (.seq (.ops [o 17 (.mv (.t 0)),o 18 (.bin 0 .eql (.t 17) (ki 8))])
 (.cond (.t 18) (.seq (.ops [o 19 (.mv (.t 1)),o 20 (.call 99 [(.t 19)]),o 4 (.mv (.t 20))])
 .ret)
 .skip))
 (.seq (.seq (.ops [o 21 (.mv (.t 0)),o 22 (.bin 0 .eql (.t 21) (ki 9))])
 (.cond (.t 22) (.seq (.ops [o 23 (.mv (.t 1)),o 24 (.call 102 [(.t 23)]),o 4 (.mv (.t 24))])
 .ret)
 .skip))
 (.keep [0,1] (.seq (.seq (.ops [o 25 (.mv (.t 0)),o 26 (.bin 0 .eql (.t 25) (ki 10))])
 (.cond (.t 26) (.seq (.ops [o 27 (.mv (.t 1)),o 28 (.call 103 [(.t 27)]),o 4 (.mv (.t 28))])
 .ret)
 .skip))
 (.seq (.ops [o 29 (.mv (.t 0)),o 30 (.mv (.t 1)),o 31 (.call 104 [(.t 29),(.t 30)]),o 4 (.mv (.t 31))])
 .ret))))))))),
 [.tmp 4]⟩
def F53 : AFun := ⟨1,
 (.seq (.ops [o 2 (.mv (.k (.c (.int .i32 0))))])
 (.seq (.ops [o 3 (.mv (.t 0)),o 4 (.call 105 [(.t 3),(ki (-65536)),(ki 65536)]),o 5 (.bin 0 .shl (.t 4) (.k (.c (.int .u64 16)))),o 6 (.call 82 [(.t 5)]),o 2 (.mv (.t 6))])
 .ret)),
 [.tmp 2]⟩
def F54 : AFun := ⟨1,
 (.seq (.ops [o 2 (.mv (.k (.c (.int .i32 0))))])
 (.seq (.seq (.ops [o 3 (.mv (.t 0)),o 4 (.bin 0 .gtr (.t 3) (ki 40000))])
 (.cond (.t 4) (.seq (.ops [o 2 (.mv (.k (.c (.int .i32 2147483647))))])
 .ret)
 .skip))
 (.seq (.seq (.ops [o 5 (.mv (.t 0)),o 6 (.bin 0 .lss (.t 5) (ki (-40000)))])
 (.cond (.t 6) (.seq (.ops [o 2 (.mv (.k (.c (.int .i32 (-2147483648)))))])
 .ret)
 .skip))
 (.seq (.ops [o 7 (.mv (.t 0)),o 8 (.bin 0 .mul (.t 7) (ki 65536)),o 9 (.call 91 [(.t 8)]),o 2 (.mv (.t 9))])
 .ret)))),
 [.tmp 2]⟩
def F55 : AFun := ⟨1,
 (.seq (.ops [o 2 (.mv (.k (.c .nilslice))),o 3 (.alloc [(.int .i64 0),(.int .i64 0)])])
 (.scope (.seq (.seq (.ops [o 8 (.mv (.t 0)),o 9 (.len 0 (.t 8)),o 10 (.bin 0 .gtr (.t 9) (ki 8192))])
 (.cond (.t 10) (.seq (.ops [o 11 (.agg [(.int .i64 0),(.int .i64 0)] [(0,1,(ki 3))]),o 2 (.mv (.k (.c .nilslice))),e (.st 2 (.t 3) (.t 11))])
 .ret)
 .skip))
 (.seq (.ops [o 4 (.mv (.k (.c .nilslice)))])
 (.seq (.ops [o 12 (.mv (.t 0)),o 13 (.agg [(.str (bs [])),(.int .i64 0),(.int .i64 0)] [(0,1,(.t 12))]),o 14 (.box (.t 13)),o 5 (.mv (.t 14))])
 (.seq (.ops [o 6 (.mv (ki 0))])
 (.keep [0,3,4,5,6] (.seq (.label 0)
 (.seq (.block 0 (.loop [0,3,4,5,6] (.block 1 (.seq (.seq (.ops [o 15 (.mv (.t 5)),o 16 (.call 106 [(.t 15)]),o 17 (.un .not (.t 16))])
 (.cond (.t 17) (.seq (.ops [o 6 (.mv (ki 200))])
 (.exit 0))
 .skip))
 (.seq (.seq (.ops [o 18 (.mv (.t 5)),o 19 (.nilck (.t 18)),o 20 (.fa 1 (.t 19)),o 21 (.ld (.t 20)),o 22 (.mv (.t 0)),o 23 (.len 0 (.t 22)),o 24 (.bin 0 .eql (.t 21) (.t 23))])
 (.keep [0,3,4,5,6,24] (.cond (.t 24) (.exit 0)
 .skip)))
 (.seq (.ops [o 7 (.alloc [(.int .i64 0),(.str (bs [])),(.int .i32 0),(.int .i64 0),(.int .i64 0)])])
 (.seq (.ops [o 26 (.mv (.t 5)),o 27 (.call 107 [(.t 26)]),o 25 (.mv (.t 27)),o 28 (.ext 0 (.t 25)),o 29 (.ext 1 (.t 25)),e (.st 5 (.t 7) (.t 28)),o 6 (.mv (.t 29))])
 (.seq (.seq (.ops [o 30 (.mv (.t 4)),o 31 (.len 1 (.t 30)),o 32 (.bin 0 .eql (.t 31) (ki 2048)),o 33 (.mv (.t 32)),⟨(some 34),(.mv (.t 6)),some (33,true)⟩,⟨(some 35),(.bin 0 .eql (.t 34) (ki 0)),some (33,true)⟩,⟨(some 36),(.mv (.t 35)),some (33,true)⟩,⟨(some 37),(.mv (.t 6)),some (36,false)⟩,⟨(some 38),(.bin 0 .eql (.t 37) (ki 120)),some (36,false)⟩,⟨(some 39),(.pick (.t 36) (.k (.c (.bool true))) (.t 38)),some (33,true)⟩,o 40 (.pick (.t 33) (.t 39) (.k (.c (.bool false))))])
 (.keep [0,3,4,5,6,7,40] (.cond (.t 40) (.ops [o 6 (.mv (ki 3))])
 .skip)))
 (.seq (.seq (.ops [o 41 (.mv (.t 6)),o 42 (.bin 0 .neq (.t 41) (ki 0))])
 (.cond (.t 42) (.exit 0)
 .skip))
 (.seq (.dops [.op 0 (o 43 (.mv (.t 5))),.op 4 (o 47 (.mv (.t 5))),.op 1 (o 44 (.nilck (.t 43))),.op 5 (o 48 (.nilck (.t 47))),.op 2 (o 45 (.fa 1 (.t 44))),.op 6 (o 49 (.fa 2 (.t 48))),.op 3 (o 46 (.ld (.t 45))),.op 7 (o 50 (.ld (.t 49))),.op 8 (o 51 (.fa 3 (.t 7))),.eff 9 (e (.st 1 (.t 51) (.t 46))) [o 50 (.ld (.t 49))],.op 10 (o 52 (.fa 4 (.t 7))),.eff 11 (e (.st 1 (.t 52) (.t 50))) []])
 (.keep [0,3,4,5,6,7] (.seq (.ops [o 53 (.mv (.t 4)),o 54 (.ldn 5 (.t 7)),o 55 (.mks [(.int .i64 0),(.str (bs [])),(.int .i32 0),(.int .i64 0),(.int .i64 0)] 1 [(0,5,(.t 54))]),o 56 (.app 5 48 (.t 53) (.t 55)),o 4 (.mv (.t 56))])
 (.ops [o 57 (.mv (.t 5)),o 58 (.fa 1 (.t 7)),o 59 (.ld (.t 58)),o 60 (.len 0 (.t 59)),o 61 (.call 108 [(.t 57),(.t 60)])])))))))))))))
 (.keep [3,4,5,6] (.seq (.seq (.ops [o 62 (.mv (.t 6)),o 63 (.bin 0 .neq (.t 62) (ki 0))])
 (.cond (.t 63) (.seq (.dops [.op 0 (o 64 (.mv (.t 6))),.op 1 (o 65 (.mv (.t 5))),.op 6 (o 2 (.mv (.k (.c .nilslice)))),.op 2 (o 66 (.nilck (.t 65))),.op 3 (o 67 (.fa 1 (.t 66))),.op 4 (o 68 (.ld (.t 67))),.op 5 (o 69 (.agg [(.int .i64 0),(.int .i64 0)] [(0,1,(.t 64)),(1,1,(.t 68))])),.eff 7 (e (.st 2 (.t 3) (.t 69))) []])
 .ret)
 .skip))
 (.seq (.ops [o 70 (.mv (.t 4)),o 71 (.agg [(.int .i64 0),(.int .i64 0)] []),o 2 (.mv (.t 70)),e (.st 2 (.t 3) (.t 71))])
 .ret)))))))))))),
 [.tmp 2,.celln 3 2]⟩
def F56 : AFun := ⟨1,
 (.seq (.ops [o 1 (.box (.t 0)),o 2 (.alloc [.nilslice]),o 3 (.alloc [(.int .i64 0),(.int .i64 0)])])
 (.seq (.ops [o 4 (.mv (.f 109))])
 (.seq (.seq (.ops [o 6 (.ld (.t 1)),o 7 (.call 110 [(.t 6)]),o 8 (.bin 0 .neq (.t 7) (ki 0)),o 9 (.mv (.t 8)),⟨(some 10),(.ld (.t 1)),some (9,false)⟩,⟨(some 11),(.mv (.t 4)),some (9,false)⟩,⟨(some 12),(.call 111 [(.t 10),(.t 11)]),some (9,false)⟩,o 13 (.pick (.t 9) (.k (.c (.bool true))) (.t 12))])
 (.cond (.t 13) (.seq (.ops [o 14 (.agg [.nilslice] []),o 15 (.agg [(.int .i64 0),(.int .i64 0)] [(0,1,(ki 2))]),e (.st 1 (.t 2) (.t 14)),e (.st 2 (.t 3) (.t 15))])
 .ret)
 .skip))
 (.keep [1,2,3] (.seq (.ops [o 16 (.ld (.t 1)),o 17 (.agg [.nilslice,(.int .i64 0)] [(0,1,(.t 16))]),o 18 (.box (.t 17)),o 5 (.alloc [.nilptr]),e (.st 1 (.t 5) (.t 18))])
 (.seq (.ops [o 19 (.mkf 112 [] [(.t 2),(.t 3),(.t 5),(.t 1)]),e (.dfr (.t 19))])
 (.seq (.ops [o 20 (.ld (.t 5)),o 21 (.call 114 [(.t 20)]),o 22 (.call 113 [(.t 21)]),o 23 (.ext 0 (.t 22)),o 24 (.ext 1 (.t 22)),e (.st 1 (.t 2) (.t 23)),e (.st 2 (.t 3) (.t 24))])
 .ret))))))),
 [.celln 2 1,.celln 3 2]⟩
def F57 : AFun := ⟨1,
 (.seq (.ops [o 1 (.box (.t 0)),o 2 (.mv (ki 0))])
 (.seq (.seq (.ops [o 6 (.ldn 1 (.t 1)),o 7 (.call 115 [(.t 6)]),o 5 (.mv (.t 7)),o 8 (.ext 0 (.t 5)),o 9 (.ext 1 (.t 5)),o 3 (.mv (.t 8)),o 4 (.mv (.t 9))])
 (.seq (.ops [o 10 (.mv (.t 4)),o 11 (.un .not (.t 10))])
 (.cond (.t 11) (.seq (.ops [o 2 (.mv (ki 221))])
 .ret)
 .skip)))
 (.seq (.ops [o 2 (.mv (ki 0))])
 .ret))),
 [.tmp 2]⟩
def F58 : AFun := ⟨2,
 (.seq (.ops [o 2 (.box (.t 0)),o 4 (.mv (.k (.c .nilptr))),o 5 (.alloc [(.int .i64 0),(.int .i64 0)])])
 (.seq (.ops [o 10 (.fa 0 (.t 2)),o 11 (.ld (.t 10)),o 12 (.len 1 (.t 11)),o 6 (.mv (.t 12))])
 (.seq (.dops [.op 0 (o 13 (.mv (.t 1))),.op 1 (o 14 (.mv (.t 6))),.flt 3 (o 16 (.mks [(.int .i64 0)] 1 [(0,1,(ki (-1)))])) [],.op 4 (o 17 (.mv (.t 6))),.op 6 (o 19 (.mv (.t 6))),.flt 9 (o 22 (.mks [(.int .i64 0)] 1 [(0,1,(ki (-1)))])) [],.op 10 (o 23 (.mv (.t 6))),.flt 2 (o 15 (.mksd [(.int .i64 0),(.int .i64 0)] 16 (.t 14) (.t 14))) [],.flt 7 (o 20 (.mksd [(.int .i64 0)] 8 (.t 19) (.t 19))) [],.eff 5 (o 18 (.call 116 [(.t 16),(.t 17)])) [o 22 (.mks [(.int .i64 0)] 1 [(0,1,(ki (-1)))]),o 15 (.mksd [(.int .i64 0),(.int .i64 0)] 16 (.t 14) (.t 14)),o 20 (.mksd [(.int .i64 0)] 8 (.t 19) (.t 19))],.op 8 (o 21 (.agg [.nilslice,(.int .i64 0),.nilslice,.nilslice,.nilslice,.nilslice,.nilslice,.nilslice,(.int .i64 0)] [(1,1,(.t 13)),(2,1,(.t 15)),(3,1,(.t 18)),(4,1,(.t 20))])),.eff 11 (o 24 (.call 116 [(.t 22),(.t 23)])) [o 15 (.mksd [(.int .i64 0),(.int .i64 0)] 16 (.t 14) (.t 14)),o 20 (.mksd [(.int .i64 0)] 8 (.t 19) (.t 19))],.op 12 (o 25 (.agg [.nilslice,(.int .i64 0),.nilslice,.nilslice,.nilslice,.nilslice,.nilslice,.nilslice,(.int .i64 0),.nilslice,.nilslice,(.int .i64 0),(.int .i64 0)] [(0,9,(.t 21)),(10,1,(.t 24))])),.eff 13 (o 26 (.box (.t 25))) [],.op 14 (o 7 (.mv (.t 26)))])
 (.keep [2,5,7] (.seq (.seq (.ops [o 27 (.fa 0 (.t 2)),o 28 (.ld (.t 27)),o 29 (.len 1 (.t 28)),o 30 (.mv (ki 0))])
 (.block 0 (.loop [5,7,28,29,30] (.seq (.ops [o 31 (.bin 0 .lss (.t 30) (.t 29))])
 (.seq (.cond (.t 31) .skip
 (.exit 0))
 (.seq (.block 1 (.seq (.ops [o 32 (.ixa 6 (.t 28) (.t 30)),o 33 (.ldn 6 (.t 32)),o 9 (.alloc [(.int .i64 0),(.str (bs [])),(.str (bs [])),(.int .i32 0),.nilslice,(.int .i64 0)]),e (.st 6 (.t 9) (.t 33))])
 (.seq (.ops [o 34 (.fa 4 (.t 9)),o 35 (.ld (.t 34)),o 36 (.call 117 [(.t 35)]),o 37 (.fa 4 (.t 9)),e (.st 1 (.t 37) (.t 36))])
 (.keep [5,7,9,28,29,30] (.dops [.op 0 (o 38 (.mv (.t 7))),.op 1 (o 39 (.mv (.t 7))),.op 7 (o 45 (.ldn 6 (.t 9))),.op 2 (o 40 (.nilck (.t 39))),.op 3 (o 41 (.fa 0 (.t 40))),.op 4 (o 42 (.fa 0 (.t 41))),.op 5 (o 43 (.fa 0 (.t 42))),.op 6 (o 44 (.ld (.t 43))),.eff 8 (o 46 (.mks [(.int .i64 0),(.str (bs [])),(.str (bs [])),(.int .i32 0),.nilslice,(.int .i64 0)] 1 [(0,6,(.t 45))])) [o 44 (.ld (.t 43))],.eff 9 (o 47 (.app 6 80 (.t 44) (.t 46))) [],.op 10 (o 48 (.nilck (.t 38))),.op 11 (o 49 (.fa 0 (.t 48))),.op 12 (o 50 (.fa 0 (.t 49))),.op 13 (o 51 (.fa 0 (.t 50))),.eff 14 (e (.st 1 (.t 51) (.t 47))) []])))))
 (.keep [5,7,28,29,30] (.ops [o 52 (.bin 0 .add (.t 30) (ki 1)),o 30 (.mv (.t 52))]))))))))
 (.seq (.ops [o 53 (.mv (.t 7)),o 54 (.mv (.t 7)),o 55 (.call 118 [(.t 54),(ki 0)]),o 4 (.mv (.t 53)),e (.st 2 (.t 5) (.t 55))])
 .ret)))))),
 [.tmp 4,.celln 5 2]⟩
def F59 : AFun := ⟨1,
 (.seq (.ops [o 1 (.box (.t 0)),o 2 (.mv (.k (.c (.bool false))))])
 (.seq (.ops [o 6 (.fa 0 (.t 1)),o 7 (.ldn 1 (.t 6)),o 8 (.fa 1 (.t 1)),o 9 (.ld (.t 8)),o 10 (.call 16 [(.t 7),(.t 9)]),o 5 (.mv (.t 10)),o 11 (.ext 0 (.t 5)),o 12 (.ext 1 (.t 5)),o 3 (.alloc [.nilslice,(.int .i64 0),.nilslice,.nilslice,.nilslice,.nilslice,.nilslice,.nilslice,(.int .i64 0)]),o 4 (.alloc [(.int .i64 0),(.int .i64 0)]),e (.st 9 (.t 3) (.t 11)),e (.st 2 (.t 4) (.t 12))])
 (.keep [1,3,4] (.seq (.ops [o 13 (.fa 0 (.t 4)),o 14 (.ld (.t 13)),o 15 (.bin 0 .eql (.t 14) (ki 0)),o 16 (.mv (.t 15)),⟨(some 17),(.ldn 9 (.t 1)),some (16,true)⟩,⟨(some 18),(.ldn 9 (.t 3)),some (16,true)⟩,⟨(some 19),(.call 119 [(.t 17),(.t 18)]),some (16,true)⟩,o 20 (.pick (.t 16) (.t 19) (.k (.c (.bool false)))),o 2 (.mv (.t 20))])
 .ret)))),
 [.tmp 2]⟩
def F60 : AFun := ⟨2,
 (.seq (.ops [o 2 (.box (.t 0)),o 3 (.box (.t 1)),o 4 (.mv (.k (.c (.bool false))))])
 (.seq (.seq (.ops [o 5 (.fa 1 (.t 3)),o 6 (.ld (.t 5)),o 7 (.len 1 (.t 6)),o 8 (.fa 6 (.t 2)),o 9 (.ld (.t 8)),o 10 (.len 1 (.t 9)),o 11 (.bin 0 .neq (.t 7) (.t 10))])
 (.cond (.t 11) (.seq (.ops [o 4 (.mv (.k (.c (.bool false))))])
 .ret)
 .skip))
 (.seq (.seq (.ops [o 12 (.fa 1 (.t 2)),o 13 (.ld (.t 12)),o 14 (.bin 0 .eql (.t 13) (ki 1))])
 (.keep [2,3,14] (.cond (.t 14) (.seq (.ops [o 15 (.fa 0 (.t 3)),o 16 (.ld (.t 15)),o 17 (.len 1 (.t 16)),o 18 (.fa 5 (.t 2)),o 19 (.ld (.t 18)),o 20 (.len 1 (.t 19)),o 21 (.bin 0 .eql (.t 17) (.t 20)),o 22 (.mv (.t 21)),⟨(some 23),(.fa 2 (.t 3)),some (22,true)⟩,⟨(some 24),(.ld (.t 23)),some (22,true)⟩,⟨(some 25),(.len 1 (.t 24)),some (22,true)⟩,⟨(some 26),(.bin 0 .eql (.t 25) (ki 0)),some (22,true)⟩,o 27 (.pick (.t 22) (.t 26) (.k (.c (.bool false)))),o 4 (.mv (.t 27))])
 .ret)
 .skip)))
 (.keep [2,3] (.seq (.ops [o 28 (.fa 0 (.t 3)),o 29 (.ld (.t 28)),o 30 (.len 1 (.t 29)),o 31 (.bin 0 .eql (.t 30) (ki 0)),o 32 (.mv (.t 31)),⟨(some 33),(.fa 2 (.t 3)),some (32,true)⟩,⟨(some 34),(.ld (.t 33)),some (32,true)⟩,⟨(some 35),(.len 1 (.t 34)),some (32,true)⟩,⟨(some 36),(.fa 7 (.t 2)),some (32,true)⟩,⟨(some 37),(.ld (.t 36)),some (32,true)⟩,⟨(some 38),(.len 1 (.t 37)),some (32,true)⟩,⟨(some 39),(.bin 0 .eql (.t 35) (.t 38)),some (32,true)⟩,o 40 (.pick (.t 32) (.t 39) (.k (.c (.bool false)))),o 4 (.mv (.t 40))])
 .ret))))),
 [.tmp 4]⟩
def F61 : AFun := ⟨1,
 (.seq (.ops [o 1 (.box (.t 0)),o 2 (.mv (ki 0))])
 (.seq (.ops [o 7 (.ldn 9 (.t 1)),o 8 .mkm,o 9 (.agg [.nilslice,(.int .i64 0),.nilslice,.nilslice,.nilslice,.nilslice,.nilslice,.nilslice,(.int .i64 0),.nilmap] [(0,9,(.t 7)),(9,1,(.t 8))]),o 3 (.alloc [.nilslice,(.int .i64 0),.nilslice,.nilslice,.nilslice,.nilslice,.nilslice,.nilslice,(.int .i64 0),.nilmap]),e (.st 10 (.t 3) (.t 9))])
 (.seq (.ops [o 10 (.ldn 10 (.t 3)),o 11 (.fa 8 (.t 1)),o 12 (.ld (.t 11)),o 13 (.call 120 [(.t 10),(.t 12)]),o 4 (.mv (.t 13))])
 (.seq (.seq (.ops [o 14 (.fa 0 (.t 1)),o 15 (.fa 0 (.t 14)),o 16 (.ld (.t 15)),o 17 (.ixa 6 (.t 16) (ki 0)),o 18 (.fa 4 (.t 17)),o 19 (.ld (.t 18)),o 20 (.len 1 (.t 19)),o 21 (.mv (ki 0))])
 (.block 0 (.loop [1,3,4,19,20,21] (.seq (.ops [o 22 (.bin 0 .lss (.t 21) (.t 20))])
 (.seq (.cond (.t 22) .skip
 (.exit 0))
 (.seq (.block 1 (.seq (.ops [o 23 (.ixa 1 (.t 19) (.t 21)),o 24 (.ld (.t 23)),o 6 (.mv (.t 24))])
 (.seq (.ops [o 25 (.fa 0 (.t 1)),o 26 (.fa 0 (.t 25)),o 27 (.ld (.t 26)),o 28 (.mv (.t 6)),o 29 (.ixa 6 (.t 27) (.t 28)),o 30 (.fa 0 (.t 29)),o 31 (.ld (.t 30)),o 32 (.bin 0 .eql (.t 31) (ki 2))])
 (.keep [1,3,4,6,19,20,21,32] (.cond (.t 32) (.ops [o 33 (.mv (.t 4)),o 34 (.ldn 10 (.t 3)),o 35 (.mv (.t 6)),o 36 (.call 120 [(.t 34),(.t 35)]),o 37 (.bin 0 .add (.t 33) (.t 36)),o 4 (.mv (.t 37))])
 .skip)))))
 (.ops [o 38 (.bin 0 .add (.t 21) (ki 1)),o 21 (.mv (.t 38))])))))))
 (.keep [4] (.seq (.ops [o 39 (.mv (.t 4)),o 40 (.mn [(.t 39),(ki 65537)]),o 2 (.mv (.t 40))])
 .ret)))))),
 [.tmp 2]⟩
def F62 : AFun := ⟨1,
 (.seq (.dops [.op 0 (o 7 (.mv (.t 0))),.op 5 (o 12 (.mv (.t 0))),.op 11 (o 18 (.mv (.t 0))),.op 16 (o 23 (.mv (.t 0))),.op 22 (o 29 (.mv (.t 0))),.op 27 (o 34 (.mv (.t 0))),.op 1 (o 8 (.nilck (.t 7))),.op 6 (o 13 (.nilck (.t 12))),.op 12 (o 19 (.nilck (.t 18))),.op 17 (o 24 (.nilck (.t 23))),.op 23 (o 30 (.nilck (.t 29))),.op 28 (o 35 (.nilck (.t 34))),.op 2 (o 9 (.fa 0 (.t 8))),.op 7 (o 14 (.fa 9 (.t 13))),.op 13 (o 20 (.fa 0 (.t 19))),.op 18 (o 25 (.fa 9 (.t 24))),.op 24 (o 31 (.fa 0 (.t 30))),.op 29 (o 36 (.fa 9 (.t 35))),.op 3 (o 10 (.fa 5 (.t 9))),.op 8 (o 15 (.fa 0 (.t 14))),.op 14 (o 21 (.fa 6 (.t 20))),.op 19 (o 26 (.fa 1 (.t 25))),.op 25 (o 32 (.fa 7 (.t 31))),.op 30 (o 37 (.fa 2 (.t 36))),.op 4 (o 11 (.ld (.t 10))),.op 9 (o 16 (.ld (.t 15))),.op 15 (o 22 (.ld (.t 21))),.op 20 (o 27 (.ld (.t 26))),.op 26 (o 33 (.ld (.t 32))),.op 31 (o 38 (.ld (.t 37))),.op 10 (o 17 (.agg [.nilslice,.nilslice] [(0,1,(.t 11)),(1,1,(.t 16))])),.op 21 (o 28 (.agg [.nilslice,.nilslice] [(0,1,(.t 22)),(1,1,(.t 27))])),.op 32 (o 39 (.agg [.nilslice,.nilslice] [(0,1,(.t 33)),(1,1,(.t 38))])),.op 33 (o 40 (.agg [.nilslice,.nilslice,.nilslice,.nilslice,.nilslice,.nilslice] [(0,2,(.t 17)),(2,2,(.t 28)),(4,2,(.t 39))])),.eff 34 (o 2 (.alloc [.nilslice,.nilslice,.nilslice,.nilslice,.nilslice,.nilslice])) [o 11 (.ld (.t 10)),o 16 (.ld (.t 15)),o 22 (.ld (.t 21)),o 27 (.ld (.t 26)),o 33 (.ld (.t 32)),o 38 (.ld (.t 37))],.eff 35 (e (.st 6 (.t 2) (.t 40))) []])
 (.keep [0,2] (.seq (.seq (.ops [o 41 (.ldn 6 (.t 2)),o 42 (.mv (ki 0))])
 (.block 0 (.loop [0,41,42] (.seq (.ops [o 43 (.bin 0 .lss (.t 42) (ki 3))])
 (.seq (.cond (.t 43) .skip
 (.exit 0))
 (.seq (.block 1 (.seq (.ops [o 44 (.ixv 3 (some 2) (.t 41) (.t 42)),o 4 (.alloc [.nilslice,.nilslice]),e (.st 2 (.t 4) (.t 44))])
 (.seq (.ops [o 45 (.fa 0 (.t 4)),o 46 (.ld (.t 45)),o 47 (.len 1 (.t 46)),o 48 (.mv (ki 0))])
 (.block 2 (.loop [0,4,41,42,46,47,48] (.seq (.ops [o 49 (.bin 0 .lss (.t 48) (.t 47))])
 (.seq (.cond (.t 49) .skip
 (.exit 2))
 (.seq (.block 3 (.seq (.ops [o 50 (.mv (.t 48)),o 51 (.ixa 1 (.t 46) (.t 48)),o 52 (.ld (.t 51)),o 5 (.mv (.t 50)),o 6 (.mv (.t 52))])
 (.seq (.ops [o 53 (.mv (.t 5)),o 54 (.fa 1 (.t 4)),o 55 (.ld (.t 54)),o 56 (.len 1 (.t 55)),o 57 (.bin 0 .lss (.t 53) (.t 56))])
 (.keep [0,4,5,6,41,42,46,47,48,57] (.cond (.t 57) (.dops [.op 0 (o 58 (.mv (.t 0))),.op 4 (o 62 (.mv (.t 6))),.op 5 (o 63 (.mv (.t 0))),.op 10 (o 68 (.mv (.t 6))),.op 13 (o 71 (.fa 1 (.t 4))),.op 15 (o 73 (.mv (.t 5))),.op 1 (o 59 (.nilck (.t 58))),.op 6 (o 64 (.nilck (.t 63))),.op 14 (o 72 (.ld (.t 71))),.op 2 (o 60 (.fa 22 (.t 59))),.op 7 (o 65 (.fa 0 (.t 64))),.op 3 (o 61 (.ld (.t 60))),.op 8 (o 66 (.fa 2 (.t 65))),.op 16 (o 74 (.ixa 4 (.t 72) (.t 73))),.op 9 (o 67 (.ld (.t 66))),.op 17 (o 75 (.ldn 4 (.t 74))),.op 11 (o 69 (.ixa 2 (.t 67) (.t 68))),.op 12 (o 70 (.ldn 2 (.t 69))),.eff 18 (o 76 (.call 121 [(.t 70),(.t 75)])) [o 61 (.ld (.t 60))],.eff 19 (e (.mup false (.t 61) (.t 62) (.t 76))) []])
 .skip)))))
 (.keep [0,4,41,42,46,47,48] (.ops [o 77 (.bin 0 .add (.t 48) (ki 1)),o 48 (.mv (.t 77))]))))))))))
 (.ops [o 78 (.bin 0 .add (.t 42) (ki 1)),o 42 (.mv (.t 78))])))))))
 (.seq (.dops [.op 0 (o 79 (.mv (.t 0))),.op 4 (o 83 (.mv (.t 0))),.op 1 (o 80 (.nilck (.t 79))),.op 5 (o 84 (.nilck (.t 83))),.op 2 (o 81 (.fa 22 (.t 80))),.op 6 (o 85 (.fa 9 (.t 84))),.op 3 (o 82 (.ld (.t 81))),.op 7 (o 86 (.fa 3 (.t 85))),.op 8 (o 87 (.ldn 4 (.t 86))),.eff 9 (e (.mup false (.t 82) (ki (-4)) (.t 87))) []])
 (.keep [0] (.seq (.dops [.op 0 (o 88 (.mv (.t 0))),.op 4 (o 92 (.mv (.t 0))),.op 1 (o 89 (.nilck (.t 88))),.op 5 (o 93 (.nilck (.t 92))),.op 2 (o 90 (.fa 22 (.t 89))),.op 6 (o 94 (.fa 9 (.t 93))),.op 3 (o 91 (.ld (.t 90))),.op 7 (o 95 (.fa 7 (.t 94))),.op 8 (o 96 (.ld (.t 95))),.eff 9 (o 97 (.call 23 [(.t 96)])) [o 91 (.ld (.t 90))],.op 10 (o 98 (.agg [(.int .i32 0),(.int .i32 0),(.int .i32 0),(.int .i32 0)] [(0,1,(.t 97))])),.eff 11 (e (.mup false (.t 91) (ki (-5)) (.t 98))) []])
 (.dops [.op 0 (o 99 (.mv (.t 0))),.op 4 (o 103 (.mv (.t 0))),.op 10 (o 109 (.mv (.t 0))),.op 1 (o 100 (.nilck (.t 99))),.op 5 (o 104 (.nilck (.t 103))),.op 11 (o 110 (.nilck (.t 109))),.op 2 (o 101 (.fa 22 (.t 100))),.op 6 (o 105 (.fa 9 (.t 104))),.op 12 (o 111 (.fa 9 (.t 110))),.op 3 (o 102 (.ld (.t 101))),.op 7 (o 106 (.fa 8 (.t 105))),.op 13 (o 112 (.fa 8 (.t 111))),.op 8 (o 107 (.ixp 4 1 (.t 106) (ki 0))),.op 14 (o 113 (.ixp 4 1 (.t 112) (ki 1))),.op 9 (o 108 (.ld (.t 107))),.op 15 (o 114 (.ld (.t 113))),.op 16 (o 115 (.agg [(.int .i32 0),(.int .i32 0),(.int .i32 0),(.int .i32 0)] [(0,1,(.t 108)),(1,1,(.t 114))])),.eff 17 (e (.mup false (.t 102) (ki (-6)) (.t 115))) []]))))))),
 []⟩
def F63 : AFun := ⟨2,
 (.seq (.ops [o 4 (.mv (ki 0))])
 (.seq (.ops [o 22 (.mv (.t 0)),o 23 (.mv (.t 1)),o 24 (.call 122 [(.t 22),(.t 23)]),o 5 (.alloc [(.int .i64 0),(.str (bs [])),(.str (bs [])),(.int .i32 0),.nilslice,(.int .i64 0)]),e (.st 6 (.t 5) (.t 24))])
 (.seq (.seq (.ops [o 25 (.fa 0 (.t 5)),o 26 (.ld (.t 25))])
 (.block 0 (.seq (.ops [o 28 (.bin 0 .eql (.t 26) (ki 10)),o 27 (.mv (.t 28))])
 (.cond (.t 27) (.seq (.ops [o 4 (.mv (ki 2))])
 .ret)
 (.seq (.ops [o 30 (.bin 0 .eql (.t 26) (ki 12)),o 29 (.mv (.t 30))])
 (.cond (.t 29) (.seq (.ops [o 4 (.mv (ki 0))])
 .ret)
 (.seq (.ops [o 32 (.bin 0 .eql (.t 26) (ki 9)),o 31 (.mv (.t 32))])
 (.keep [0,1,5,26,31] (.cond (.t 31) (.seq (.seq (.ops [o 33 (.fa 4 (.t 5)),o 34 (.ld (.t 33)),o 35 (.len 1 (.t 34)),o 36 (.bin 0 .gtr (.t 35) (ki 0))])
 (.cond (.t 36) (.seq (.ops [o 38 (.mv (.t 0)),o 39 (.fa 4 (.t 5)),o 40 (.ld (.t 39)),o 41 (.ixa 1 (.t 40) (ki 0)),o 42 (.ld (.t 41)),o 43 (.call 123 [(.t 38),(.t 42)]),o 37 (.mv (.t 43)),o 44 (.ext 0 (.t 37)),o 45 (.ext 1 (.t 37)),o 6 (.alloc [(.int .i32 0),(.int .i32 0),(.int .i32 0),(.int .i32 0)]),e (.st 4 (.t 6) (.t 44)),o 7 (.mv (.t 45))])
 (.keep [0,6,7] (.seq (.seq (.ops [o 46 (.mv (.t 7)),o 47 (.un .not (.t 46))])
 (.cond (.t 47) (.seq (.ops [o 4 (.mv (ki 2))])
 .ret)
 .skip))
 (.ops [o 48 (.mv (.t 0)),o 49 (.ldn 4 (.t 6)),o 50 (.nilck (.t 48)),o 51 (.fa 23 (.t 50)),e (.st 4 (.t 51) (.t 49))]))))
 .skip))
 (.seq (.ops [o 4 (.mv (ki 1))])
 .ret))
 (.seq (.ops [o 53 (.bin 0 .eql (.t 26) (ki 11)),o 52 (.mv (.t 53))])
 (.cond (.t 52) (.seq (.seq (.ops [o 55 (.mv (.t 0)),o 56 (.fa 4 (.t 5)),o 57 (.ld (.t 56)),o 58 (.ixa 1 (.t 57) (ki 0)),o 59 (.ld (.t 58)),o 60 (.call 123 [(.t 55),(.t 59)]),o 54 (.mv (.t 60)),o 61 (.ext 0 (.t 54)),o 62 (.ext 1 (.t 54)),o 8 (.alloc [(.int .i32 0),(.int .i32 0),(.int .i32 0),(.int .i32 0)]),e (.st 4 (.t 8) (.t 61)),o 9 (.mv (.t 62))])
 (.keep [9] (.seq (.ops [o 63 (.mv (.t 9)),o 64 (.un .not (.t 63))])
 (.cond (.t 64) (.seq (.ops [o 4 (.mv (ki 2))])
 .ret)
 .skip))))
 (.seq (.ops [o 4 (.mv (ki 0))])
 .ret))
 (.seq (.ops [o 66 (.bin 0 .eql (.t 26) (ki 3)),o 65 (.mv (.t 66))])
 (.cond (.t 65) (.seq (.ops [o 10 (.alloc [(.int .i32 0),(.int .i32 0),(.int .i32 0),(.int .i32 0)])])
 (.seq (.seq (.ops [o 67 (.fa 4 (.t 5)),o 68 (.ld (.t 67)),o 69 (.len 1 (.t 68)),o 70 (.bin 0 .gtr (.t 69) (ki 0))])
 (.cond (.t 70) (.seq (.ops [o 72 (.mv (.t 0)),o 73 (.fa 4 (.t 5)),o 74 (.ld (.t 73)),o 75 (.ixa 1 (.t 74) (ki 0)),o 76 (.ld (.t 75)),o 77 (.call 123 [(.t 72),(.t 76)]),o 71 (.mv (.t 77)),o 78 (.ext 0 (.t 71)),o 79 (.ext 1 (.t 71)),o 11 (.alloc [(.int .i32 0),(.int .i32 0),(.int .i32 0),(.int .i32 0)]),e (.st 4 (.t 11) (.t 78)),o 12 (.mv (.t 79))])
 (.keep [0,1,10,11,12] (.seq (.seq (.ops [o 80 (.mv (.t 12)),o 81 (.un .not (.t 80))])
 (.cond (.t 81) (.seq (.ops [o 4 (.mv (ki 2))])
 .ret)
 .skip))
 (.ops [o 82 (.ldn 4 (.t 11)),e (.st 4 (.t 10) (.t 82))]))))
 .skip))
 (.seq (.dops [.op 0 (o 83 (.mv (.t 0))),.op 4 (o 87 (.mv (.t 1))),.op 5 (o 88 (.ldn 4 (.t 10))),.op 1 (o 84 (.nilck (.t 83))),.op 2 (o 85 (.fa 22 (.t 84))),.op 3 (o 86 (.ld (.t 85))),.eff 6 (e (.mup false (.t 86) (.t 87) (.t 88))) []])
 (.keep [] (.seq (.ops [o 4 (.mv (ki 0))])
 .ret)))))
 (.seq (.ops [o 90 (.bin 0 .eql (.t 26) (ki 7)),o 89 (.mv (.t 90))])
 (.cond (.t 89) (.seq (.ops [o 92 (.mv (.t 0)),o 93 (.fa 4 (.t 5)),o 94 (.ld (.t 93)),o 95 (.ixa 1 (.t 94) (ki 0)),o 96 (.ld (.t 95)),o 97 (.call 123 [(.t 92),(.t 96)]),o 91 (.mv (.t 97)),o 98 (.ext 0 (.t 91)),o 99 (.ext 1 (.t 91)),o 13 (.alloc [(.int .i32 0),(.int .i32 0),(.int .i32 0),(.int .i32 0)]),e (.st 4 (.t 13) (.t 98)),o 14 (.mv (.t 99))])
 (.keep [0,5,13,14] (.seq (.block 1 (.seq (.ops [o 101 (.mv (.t 14)),o 102 (.un .not (.t 101)),o 100 (.mv (.t 102))])
 (.cond (.t 100) (.seq (.ops [o 4 (.mv (ki 2))])
 .ret)
 (.seq (.ops [o 104 (.ixp 4 1 (.t 13) (ki 0)),o 105 (.ld (.t 104)),o 106 (.bin 0 .eql (.t 105) (.k (.c (.int .i32 1)))),o 103 (.mv (.t 106))])
 (.cond (.t 103) (.seq (.ops [o 107 (.mv (.t 0)),o 108 (.fa 4 (.t 5)),o 109 (.ld (.t 108)),o 110 (.ixa 1 (.t 109) (ki 1)),o 111 (.ld (.t 110)),o 112 (.call 63 [(.t 107),(.t 111)]),o 4 (.mv (.t 112))])
 .ret)
 (.seq (.ops [o 114 (.fa 4 (.t 5)),o 115 (.ld (.t 114)),o 116 (.len 1 (.t 115)),o 117 (.bin 0 .eql (.t 116) (ki 3)),o 113 (.mv (.t 117))])
 (.keep [0,5,113] (.cond (.t 113) (.seq (.ops [o 118 (.mv (.t 0)),o 119 (.fa 4 (.t 5)),o 120 (.ld (.t 119)),o 121 (.ixa 1 (.t 120) (ki 2)),o 122 (.ld (.t 121)),o 123 (.call 63 [(.t 118),(.t 122)]),o 4 (.mv (.t 123))])
 .ret)
 .skip))))))))
 (.keep [] (.seq (.ops [o 4 (.mv (ki 0))])
 .ret)))))
 (.seq (.ops [o 125 (.bin 0 .eql (.t 26) (ki 8)),o 124 (.mv (.t 125))])
 (.cond (.t 124) (.scope (.seq (.ops [o 127 (.mv (.t 0)),o 128 (.nilck (.t 127)),o 129 (.fa 0 (.t 128)),o 130 (.fa 0 (.t 129)),o 131 (.ldn 1 (.t 130)),o 132 (.mv (.t 1)),o 133 (.call 124 [(.t 131),(.t 132)]),o 126 (.mv (.t 133)),o 134 (.ext 0 (.t 126)),o 135 (.ext 1 (.t 126)),o 15 (.mv (.t 134)),o 16 (.mv (.t 135))])
 (.keep [0,1,5,15,16] (.seq (.label 0)
 (.seq (.seq (.ops [o 136 (.mv (.t 15)),o 17 (.mv (.t 136))])
 (.block 2 (.loop [0,1,5,16,17] (.seq (.seq (.ops [o 137 (.mv (.t 17)),o 138 (.mv (.t 16)),o 139 (.bin 0 .lss (.t 137) (.t 138))])
 (.cond (.t 139) .skip
 (.exit 2)))
 (.seq (.block 3 (.seq (.ops [o 142 (.mv (.t 0)),o 143 (.nilck (.t 142)),o 144 (.fa 22 (.t 143)),o 145 (.ld (.t 144)),o 146 (.mv (.t 1)),o 147 (.mv (.t 17)),o 148 (.convi .i32 (.t 147)),o 149 (.agg [(.int .i32 0),(.int .i32 0),(.int .i32 0),(.int .i32 0)] [(0,1,(.t 148))]),e (.mup false (.t 145) (.t 146) (.t 149))])
 (.keep [0,1,5,16,17] (.seq (.seq (.ops [o 150 (.mv (.t 0)),o 151 (.fa 4 (.t 5)),o 152 (.ld (.t 151)),o 153 (.ixa 1 (.t 152) (ki 2)),o 154 (.ld (.t 153)),o 155 (.call 63 [(.t 150),(.t 154)]),o 18 (.mv (.t 155))])
 (.seq (.ops [o 156 (.mv (.t 18)),o 157 (.bin 0 .neq (.t 156) (ki 0))])
 (.cond (.t 157) (.seq (.ops [o 158 (.mv (.t 18)),o 4 (.mv (.t 158))])
 .ret)
 .skip)))
 (.exit 3)))))
 (.keep [0,1,5,16,17] (.ops [o 140 (.mv (.t 17)),o 141 (.bin 0 .add (.t 140) (ki 1)),o 17 (.mv (.t 141))])))))))
 (.seq (.ops [o 4 (.mv (ki 0))])
 .ret))))))
 .skip)))))))))))))))))
 (.keep [0,5] (.seq (.seq (.ops [o 159 (.fa 4 (.t 5)),o 160 (.ld (.t 159)),o 161 (.len 1 (.t 160)),o 162 (.mv (ki 0))])
 (.block 4 (.loop [0,160,161,162] (.seq (.ops [o 163 (.bin 0 .lss (.t 162) (.t 161))])
 (.seq (.cond (.t 163) .skip
 (.exit 4))
 (.seq (.block 5 (.seq (.ops [o 164 (.ixa 1 (.t 160) (.t 162)),o 165 (.ld (.t 164)),o 20 (.mv (.t 165))])
 (.seq (.ops [o 166 (.mv (.t 0)),o 167 (.mv (.t 20)),o 168 (.call 63 [(.t 166),(.t 167)]),o 21 (.mv (.t 168))])
 (.seq (.ops [o 169 (.mv (.t 21)),o 170 (.bin 0 .neq (.t 169) (ki 0))])
 (.cond (.t 170) (.seq (.ops [o 171 (.mv (.t 21)),o 4 (.mv (.t 171))])
 .ret)
 .skip)))))
 (.keep [0,160,161,162] (.ops [o 172 (.bin 0 .add (.t 162) (ki 1)),o 162 (.mv (.t 172))]))))))))
 (.seq (.ops [o 4 (.mv (ki 0))])
 .ret)))))),
 [.tmp 4]⟩
def F64 : AFun := ⟨1,
 (.seq (.ops [o 2 (.mv (.k (.c (.int .i32 0))))])
 (.seq (.ops [o 3 (.mv (.t 0)),o 4 (.convi .u32 (.t 3)),o 5 (.convi .i32 (.t 4)),o 2 (.mv (.t 5))])
 .ret)),
 [.tmp 2]⟩
def F65 : AFun := ⟨3,
 (.seq (.ops [o 6 (.mv (.k (.c (.int .i32 0)))),o 7 (.mv (.k (.c (.bool false))))])
 (.seq (.seq (.ops [o 8 (.mv (.t 0))])
 (.block 0 (.seq (.ops [o 10 (.bin 0 .eql (.t 8) (ki 0)),o 9 (.mv (.t 10))])
 (.cond (.t 9) (.seq (.ops [o 11 (.mv (.t 1)),o 12 (.mv (.t 2)),o 13 (.call 75 [(.t 11),(.t 12)]),o 6 (.mv (.t 13)),o 7 (.mv (.k (.c (.bool true))))])
 .ret)
 (.seq (.ops [o 15 (.bin 0 .eql (.t 8) (ki 1)),o 14 (.mv (.t 15))])
 (.cond (.t 14) (.seq (.ops [o 16 (.mv (.t 1)),o 17 (.mv (.t 2)),o 18 (.call 76 [(.t 16),(.t 17)]),o 6 (.mv (.t 18)),o 7 (.mv (.k (.c (.bool true))))])
 .ret)
 (.seq (.ops [o 20 (.bin 0 .eql (.t 8) (ki 2)),o 19 (.mv (.t 20))])
 (.cond (.t 19) (.seq (.ops [o 21 (.mv (.t 1)),o 22 (.mv (.t 2)),o 23 (.call 72 [(.t 21),(.t 22)]),o 6 (.mv (.t 23)),o 7 (.mv (.k (.c (.bool true))))])
 .ret)
 (.seq (.ops [o 25 (.bin 0 .eql (.t 8) (ki 3)),o 24 (.mv (.t 25))])
 (.cond (.t 24) (.seq (.ops [o 26 (.mv (.t 1)),o 27 (.mv (.t 2)),o 28 (.call 79 [(.t 26),(.t 27)]),o 6 (.mv (.t 28)),o 7 (.mv (.k (.c (.bool true))))])
 .ret)
 (.seq (.ops [o 30 (.bin 0 .eql (.t 8) (ki 4)),o 29 (.mv (.t 30))])
 (.keep [1,2,8,29] (.cond (.t 29) (.seq (.ops [o 31 (.mv (.t 1)),o 32 (.mv (.t 2)),o 33 (.mn [(.t 31),(.t 32)]),o 6 (.mv (.t 33)),o 7 (.mv (.k (.c (.bool true))))])
 .ret)
 (.seq (.ops [o 35 (.bin 0 .eql (.t 8) (ki 5)),o 34 (.mv (.t 35))])
 (.cond (.t 34) (.seq (.ops [o 36 (.mv (.t 1)),o 37 (.mv (.t 2)),o 38 (.mx [(.t 36),(.t 37)]),o 6 (.mv (.t 38)),o 7 (.mv (.k (.c (.bool true))))])
 .ret)
 (.seq (.ops [o 40 (.bin 0 .eql (.t 8) (ki 6)),o 39 (.mv (.t 40))])
 (.cond (.t 39) (.seq (.ops [o 41 (.mv (.t 1)),o 42 (.mv (.t 2)),o 43 (.call 125 [(.t 41),(.t 42)]),o 6 (.mv (.t 43)),o 7 (.mv (.k (.c (.bool true))))])
 .ret)
 (.seq (.ops [o 45 (.bin 0 .eql (.t 8) (ki 7)),o 44 (.mv (.t 45))])
 (.cond (.t 44) (.seq (.seq (.ops [o 46 (.mv (.t 2)),o 47 (.mv (.t 1)),o 48 (.bin 0 .geq (.t 46) (.t 47))])
 (.cond (.t 48) (.seq (.ops [o 6 (.mv (.k (.c (.int .i32 65536)))),o 7 (.mv (.k (.c (.bool true))))])
 .ret)
 .skip))
 (.keep [] (.seq (.ops [o 6 (.mv (.k (.c (.int .i32 0)))),o 7 (.mv (.k (.c (.bool true))))])
 .ret)))
 .skip)))))))))))))))))))
 (.keep [] (.seq (.ops [o 6 (.mv (.k (.c (.int .i32 0)))),o 7 (.mv (.k (.c (.bool false))))])
 .ret)))),
 [.tmp 6,.tmp 7]⟩
def F66 : AFun := ⟨1,
 (.seq (.ops [o 2 (.mv (.k (.c (.bool false))))])
 (.seq (.ops [o 3 (.mv (.t 0)),o 4 (.bin 0 .geq (.t 3) (ki 1)),o 5 (.mv (.t 4)),⟨(some 6),(.mv (.t 0)),some (5,true)⟩,⟨(some 7),(.bin 0 .leq (.t 6) (ki 4)),some (5,true)⟩,o 8 (.pick (.t 5) (.t 7) (.k (.c (.bool false)))),o 2 (.mv (.t 8))])
 .ret)),
 [.tmp 2]⟩
def F67 : AFun := ⟨2,
 (.seq (.ops [o 4 (.alloc [(.int .i32 0),(.int .i32 0),(.int .i32 0),(.int .i32 0)])])
 (.seq (.ops [o 5 (.alloc [(.int .i32 0),(.int .i32 0),(.int .i32 0),(.int .i32 0)])])
 (.seq (.seq (.ops [o 7 (.mv (.t 0)),o 8 (.mv (ki 0))])
 (.block 0 (.loop [1,4,5,7,8] (.seq (.ops [o 9 (.bin 0 .lss (.t 8) (.t 7))])
 (.seq (.cond (.t 9) .skip
 (.exit 0))
 (.seq (.block 1 (.seq (.ops [o 10 (.mv (.t 8)),o 6 (.mv (.t 10))])
 (.ops [o 11 (.mv (.t 6)),o 12 (.mv (.t 1)),o 13 (.mv (.t 6)),o 14 (.callv (.t 12) [(.t 13)]),o 15 (.ixp 4 1 (.t 5) (.t 11)),e (.st 1 (.t 15) (.t 14))])))
 (.ops [o 16 (.bin 0 .add (.t 8) (ki 1)),o 8 (.mv (.t 16))])))))))
 (.keep [4,5] (.seq (.ops [o 17 (.ldn 4 (.t 5)),e (.st 4 (.t 4) (.t 17))])
 .ret))))),
 [.celln 4 4]⟩
def F68 : AFun := ⟨4,
 (.seq (.ops [o 5 (.mv (.k (.c (.int .i32 0))))])
 (.seq (.dops [.op 0 (o 9 (.ld (.t 1))),.op 1 (o 10 (.mv (.t 0))),.op 4 (o 13 (.mv (.t 0))),.op 2 (o 11 (.ixp 4 1 (.t 2) (.t 10))),.op 5 (o 14 (.ixp 4 1 (.t 3) (.t 13))),.op 3 (o 12 (.ld (.t 11))),.op 6 (o 15 (.ld (.t 14))),.eff 7 (o 16 (.call 65 [(.t 9),(.t 12),(.t 15)])) [],.op 8 (o 8 (.mv (.t 16))),.op 9 (o 17 (.ext 0 (.t 8))),.op 10 (o 18 (.ext 1 (.t 8))),.op 11 (o 6 (.mv (.t 17))),.op 12 (o 7 (.mv (.t 18)))])
 (.keep [6] (.seq (.ops [o 19 (.mv (.t 6)),o 5 (.mv (.t 19))])
 .ret)))),
 [.tmp 5]⟩
def F69 : AFun := ⟨2,
 (.seq (.ops [o 4 (.mv (.k (.c (.int .i32 0)))),o 5 (.mv (.k (.c (.bool false))))])
 (.seq (.seq (.ops [o 6 (.mv (.t 0))])
 (.block 0 (.seq (.ops [o 8 (.bin 0 .eql (.t 6) (ki 0)),o 7 (.mv (.t 8))])
 (.cond (.t 7) (.seq (.ops [o 9 (.mv (.t 1)),o 10 (.call 126 [(.t 9)]),o 4 (.mv (.t 10)),o 5 (.mv (.k (.c (.bool true))))])
 .ret)
 (.seq (.ops [o 12 (.bin 0 .eql (.t 6) (ki 1)),o 11 (.mv (.t 12))])
 (.cond (.t 11) (.seq (.ops [o 13 (.mv (.t 1)),o 14 (.call 127 [(.t 13)]),o 4 (.mv (.t 14)),o 5 (.mv (.k (.c (.bool true))))])
 .ret)
 (.seq (.ops [o 16 (.bin 0 .eql (.t 6) (ki 2)),o 15 (.mv (.t 16))])
 (.cond (.t 15) (.seq (.ops [o 17 (.mv (.t 1)),o 18 (.call 128 [(.t 17)]),o 4 (.mv (.t 18)),o 5 (.mv (.k (.c (.bool true))))])
 .ret)
 (.seq (.ops [o 20 (.bin 0 .eql (.t 6) (ki 3)),o 19 (.mv (.t 20))])
 (.cond (.t 19) (.seq (.ops [o 21 (.mv (.t 1)),o 22 (.call 129 [(.t 21)]),o 4 (.mv (.t 22)),o 5 (.mv (.k (.c (.bool true))))])
 .ret)
 (.seq (.ops [o 24 (.bin 0 .eql (.t 6) (ki 4)),o 23 (.mv (.t 24))])
 (.keep [1,23] (.cond (.t 23) (.seq (.ops [o 25 (.mv (.t 1)),o 26 (.call 130 [(.t 25)]),o 4 (.mv (.t 26)),o 5 (.mv (.k (.c (.bool true))))])
 .ret)
 .skip)))))))))))))
 (.keep [] (.seq (.ops [o 4 (.mv (.k (.c (.int .i32 0)))),o 5 (.mv (.k (.c (.bool false))))])
 .ret)))),
 [.tmp 4,.tmp 5]⟩
def F70 : AFun := ⟨3,
 (.seq (.ops [o 4 (.mv (.k (.c (.int .i32 0))))])
 (.seq (.dops [.op 0 (o 8 (.ld (.t 1))),.op 1 (o 9 (.mv (.t 0))),.op 2 (o 10 (.ixp 4 1 (.t 2) (.t 9))),.op 3 (o 11 (.ld (.t 10))),.eff 4 (o 12 (.call 69 [(.t 8),(.t 11)])) [],.op 5 (o 7 (.mv (.t 12))),.op 6 (o 13 (.ext 0 (.t 7))),.op 7 (o 14 (.ext 1 (.t 7))),.op 8 (o 5 (.mv (.t 13))),.op 9 (o 6 (.mv (.t 14)))])
 (.seq (.ops [o 15 (.mv (.t 5)),o 4 (.mv (.t 15))])
 .ret))),
 [.tmp 4]⟩
def F71 : AFun := ⟨1,
 (.seq (.ops [o 2 (.mv (.k (.c (.int .i32 0))))])
 (.seq (.ops [o 7 (.mv (.t 0)),o 8 (.bin 0 .shr (.t 7) (.k (.c (.int .u64 16)))),o 9 (.convi .i64 (.t 8)),o 3 (.mv (.t 9))])
 (.seq (.block 0 (.seq (.ops [o 11 (.mv (.t 3)),o 12 (.bin 0 .geq (.t 11) (ki 15)),o 10 (.mv (.t 12))])
 (.cond (.t 10) (.seq (.ops [o 2 (.mv (.k (.c (.int .i32 2147483647))))])
 .ret)
 (.seq (.ops [o 14 (.mv (.t 3)),o 15 (.bin 0 .lss (.t 14) (ki (-30))),o 13 (.mv (.t 15))])
 (.cond (.t 13) (.seq (.ops [o 2 (.mv (.k (.c (.int .i32 0))))])
 .ret)
 .skip)))))
 (.seq (.ops [o 4 (.mv (ki 1073741824))])
 (.seq (.seq (.ops [o 16 (.call 131 []),o 17 (.mv (ki 0))])
 (.block 1 (.loop [0,3,4,16,17] (.seq (.ops [o 18 (.bin 0 .lss (.t 17) (ki 16))])
 (.seq (.cond (.t 18) .skip
 (.exit 1))
 (.seq (.block 2 (.seq (.ops [o 19 (.mv (.t 17)),o 20 (.ixv 16 none (.t 16) (.t 17)),o 5 (.mv (.t 19)),o 6 (.mv (.t 20))])
 (.seq (.ops [o 21 (.mv (.t 0)),o 22 (.mv (.t 5)),o 23 (.bin 0 .sub (ki 15) (.t 22)),o 24 (.bin 0 .shr (.t 21) (.t 23)),o 25 (.bin 0 .and (.t 24) (.k (.c (.int .i32 1)))),o 26 (.bin 0 .eql (.t 25) (.k (.c (.int .i32 1))))])
 (.keep [0,3,4,6,16,17,26] (.cond (.t 26) (.ops [o 27 (.mv (.t 4)),o 28 (.mv (.t 6)),o 29 (.bin 0 .mul (.t 27) (.t 28)),o 30 (.bin 0 .shr (.t 29) (.k (.c (.int .u64 30)))),o 4 (.mv (.t 30))])
 .skip)))))
 (.ops [o 31 (.bin 0 .add (.t 17) (ki 1)),o 17 (.mv (.t 31))])))))))
 (.seq (.ops [o 32 (.mv (.t 4)),o 33 (.mv (.t 3)),o 34 (.bin 0 .sub (ki 14) (.t 33)),o 35 (.bin 0 .shr (.t 32) (.t 34)),o 36 (.convi .i32 (.t 35)),o 2 (.mv (.t 36))])
 .ret)))))),
 [.tmp 2]⟩
def F72 : AFun := ⟨2,
 (.seq (.ops [o 4 (.mv (.k (.c (.int .i32 0))))])
 (.seq (.ops [o 5 (.mv (.t 0)),o 6 (.convi .i64 (.t 5)),o 7 (.mv (.t 1)),o 8 (.convi .i64 (.t 7)),o 9 (.bin 0 .mul (.t 6) (.t 8)),o 10 (.bin 0 .add (.t 9) (ki 32768)),o 11 (.bin 0 .shr (.t 10) (.k (.c (.int .u64 16)))),o 12 (.call 82 [(.t 11)]),o 4 (.mv (.t 12))])
 .ret)),
 [.tmp 4]⟩
def F73 : AFun := ⟨1,
 (.seq (.ops [o 2 (.mv (.k (.c (.int .i32 0))))])
 (.seq (.seq (.ops [o 6 (.mv (.t 0)),o 7 (.bin 0 .leq (.t 6) (.k (.c (.int .i32 0))))])
 (.cond (.t 7) (.seq (.ops [o 2 (.mv (.k (.c (.int .i32 (-2147483648)))))])
 .ret)
 .skip))
 (.seq (.ops [o 8 (.mv (.t 0)),o 9 (.convi .u32 (.t 8)),o 10 (.call 132 [(.t 9)]),o 11 (.bin 0 .sub (.t 10) (ki 1)),o 3 (.mv (.t 11))])
 (.seq (.ops [o 12 (.mv (.t 0)),o 13 (.convi .i64 (.t 12)),o 14 (.mv (.t 3)),o 15 (.bin 0 .sub (ki 30) (.t 14)),o 16 (.bin 0 .shl (.t 13) (.t 15)),o 4 (.mv (.t 16))])
 (.keep [3,4] (.seq (.ops [o 17 (.mv (.t 3)),o 18 (.bin 0 .sub (.t 17) (ki 16)),o 5 (.mv (.t 18))])
 (.seq (.seq (.ops [o 19 (.mv (ki 0))])
 (.block 0 (.loop [4,5,19] (.seq (.ops [o 20 (.bin 0 .lss (.t 19) (ki 16))])
 (.seq (.cond (.t 20) .skip
 (.exit 0))
 (.seq (.block 1 (.seq (.ops [o 21 (.mv (.t 4)),o 22 (.mv (.t 4)),o 23 (.bin 0 .mul (.t 21) (.t 22)),o 24 (.bin 0 .shr (.t 23) (.k (.c (.int .u64 30)))),o 4 (.mv (.t 24))])
 (.seq (.ops [o 25 (.mv (.t 5)),o 26 (.bin 0 .shl (.t 25) (.k (.c (.int .u64 1)))),o 5 (.mv (.t 26))])
 (.seq (.ops [o 27 (.mv (.t 4)),o 28 (.bin 0 .geq (.t 27) (ki 2147483648))])
 (.cond (.t 28) (.seq (.ops [o 29 (.mv (.t 4)),o 30 (.bin 0 .shr (.t 29) (.k (.c (.int .u64 1)))),o 4 (.mv (.t 30))])
 (.keep [4,5,19] (.ops [o 31 (.mv (.t 5)),o 32 (.bin 0 .or (.t 31) (ki 1)),o 5 (.mv (.t 32))])))
 .skip)))))
 (.ops [o 33 (.bin 0 .add (.t 19) (ki 1)),o 19 (.mv (.t 33))])))))))
 (.keep [5] (.seq (.ops [o 34 (.mv (.t 5)),o 35 (.convi .i32 (.t 34)),o 2 (.mv (.t 35))])
 .ret))))))))),
 [.tmp 2]⟩
def F74 : AFun := ⟨4,
 (.seq (.ops [o 5 (.mv (.k (.c (.int .i32 0))))])
 (.seq (.dops [.op 0 (o 6 (.mv (.t 0))),.op 3 (o 9 (.mv (.t 0))),.op 6 (o 12 (.mv (.t 0))),.op 10 (o 16 (.mv (.t 0))),.op 1 (o 7 (.ixp 4 1 (.t 1) (.t 6))),.op 4 (o 10 (.ixp 4 1 (.t 2) (.t 9))),.op 7 (o 13 (.ixp 4 1 (.t 1) (.t 12))),.op 11 (o 17 (.ixp 4 1 (.t 3) (.t 16))),.op 2 (o 8 (.ld (.t 7))),.op 5 (o 11 (.ld (.t 10))),.op 8 (o 14 (.ld (.t 13))),.op 12 (o 18 (.ld (.t 17))),.eff 9 (o 15 (.call 76 [(.t 11),(.t 14)])) [o 8 (.ld (.t 7)),o 18 (.ld (.t 17))],.eff 13 (o 19 (.call 72 [(.t 15),(.t 18)])) [o 8 (.ld (.t 7))],.eff 14 (o 20 (.call 75 [(.t 8),(.t 19)])) [],.op 15 (o 5 (.mv (.t 20)))])
 .ret)),
 [.tmp 5]⟩
def F75 : AFun := ⟨2,
 (.seq (.ops [o 4 (.mv (.k (.c (.int .i32 0))))])
 (.seq (.ops [o 5 (.mv (.t 0)),o 6 (.convi .i64 (.t 5)),o 7 (.mv (.t 1)),o 8 (.convi .i64 (.t 7)),o 9 (.bin 0 .add (.t 6) (.t 8)),o 10 (.call 82 [(.t 9)]),o 4 (.mv (.t 10))])
 .ret)),
 [.tmp 4]⟩
def F76 : AFun := ⟨2,
 (.seq (.ops [o 4 (.mv (.k (.c (.int .i32 0))))])
 (.seq (.ops [o 5 (.mv (.t 0)),o 6 (.convi .i64 (.t 5)),o 7 (.mv (.t 1)),o 8 (.convi .i64 (.t 7)),o 9 (.bin 0 .sub (.t 6) (.t 8)),o 10 (.call 82 [(.t 9)]),o 4 (.mv (.t 10))])
 .ret)),
 [.tmp 4]⟩
def F77 : AFun := ⟨4,
 (.seq (.ops [o 5 (.mv (.k (.c (.int .i32 0))))])
 (.seq (.dops [.op 0 (o 6 (.mv (.t 0))),.op 3 (o 9 (.mv (.t 0))),.op 7 (o 13 (.mv (.t 0))),.op 1 (o 7 (.ixp 4 1 (.t 1) (.t 6))),.op 4 (o 10 (.ixp 4 1 (.t 2) (.t 9))),.op 8 (o 14 (.ixp 4 1 (.t 3) (.t 13))),.op 2 (o 8 (.ld (.t 7))),.op 5 (o 11 (.ld (.t 10))),.op 9 (o 15 (.ld (.t 14))),.op 6 (o 12 (.mx [(.t 8),(.t 11)])),.op 10 (o 16 (.mn [(.t 12),(.t 15)])),.op 11 (o 5 (.mv (.t 16)))])
 .ret)),
 [.tmp 5]⟩
def F78 : AFun := ⟨3,
 (.seq (.ops [o 4 (.mv (.k (.c (.int .i32 0))))])
 (.seq (.ops [o 7 (.mv (.t 0)),o 8 (.bin 0 .add (.t 7) (ki 1)),o 9 (.bin 0 .rem (.t 8) (ki 3)),o 10 (.mv (.t 0)),o 11 (.bin 0 .add (.t 10) (ki 2)),o 12 (.bin 0 .rem (.t 11) (ki 3)),o 5 (.mv (.t 9)),o 6 (.mv (.t 12))])
 (.seq (.dops [.op 0 (o 13 (.mv (.t 5))),.op 3 (o 16 (.mv (.t 6))),.op 7 (o 20 (.mv (.t 6))),.op 10 (o 23 (.mv (.t 5))),.op 1 (o 14 (.ixp 4 1 (.t 1) (.t 13))),.op 4 (o 17 (.ixp 4 1 (.t 2) (.t 16))),.op 8 (o 21 (.ixp 4 1 (.t 1) (.t 20))),.op 11 (o 24 (.ixp 4 1 (.t 2) (.t 23))),.op 2 (o 15 (.ld (.t 14))),.op 5 (o 18 (.ld (.t 17))),.op 9 (o 22 (.ld (.t 21))),.op 12 (o 25 (.ld (.t 24))),.eff 6 (o 19 (.call 72 [(.t 15),(.t 18)])) [o 22 (.ld (.t 21)),o 25 (.ld (.t 24))],.eff 13 (o 26 (.call 72 [(.t 22),(.t 25)])) [],.eff 14 (o 27 (.call 76 [(.t 19),(.t 26)])) [],.op 15 (o 4 (.mv (.t 27)))])
 .ret))),
 [.tmp 4]⟩
def F79 : AFun := ⟨2,
 (.seq (.ops [o 4 (.mv (.k (.c (.int .i32 0))))])
 (.seq (.ops [o 7 (.mv (.t 0)),o 8 (.convi .i64 (.t 7)),o 9 (.bin 0 .shl (.t 8) (.k (.c (.int .u64 16)))),o 10 (.mv (.t 1)),o 11 (.convi .i64 (.t 10)),o 5 (.mv (.t 9)),o 6 (.mv (.t 11))])
 (.seq (.seq (.ops [o 12 (.mv (.t 6)),o 13 (.bin 0 .lss (.t 12) (ki 0))])
 (.cond (.t 13) (.ops [o 14 (.mv (.t 5)),o 15 (.un .neg (.t 14)),o 16 (.mv (.t 6)),o 17 (.un .neg (.t 16)),o 5 (.mv (.t 15)),o 6 (.mv (.t 17))])
 .skip))
 (.keep [5,6] (.seq (.block 0 (.seq (.ops [o 19 (.mv (.t 6)),o 20 (.bin 0 .eql (.t 19) (ki 0)),o 21 (.mv (.t 20)),⟨(some 22),(.mv (.t 5)),some (21,true)⟩,⟨(some 23),(.bin 0 .gtr (.t 22) (ki 0)),some (21,true)⟩,o 24 (.pick (.t 21) (.t 23) (.k (.c (.bool false)))),o 18 (.mv (.t 24))])
 (.cond (.t 18) (.seq (.ops [o 4 (.mv (.k (.c (.int .i32 2147483647))))])
 .ret)
 (.seq (.ops [o 26 (.mv (.t 6)),o 27 (.bin 0 .eql (.t 26) (ki 0)),o 28 (.mv (.t 27)),⟨(some 29),(.mv (.t 5)),some (28,true)⟩,⟨(some 30),(.bin 0 .lss (.t 29) (ki 0)),some (28,true)⟩,o 31 (.pick (.t 28) (.t 30) (.k (.c (.bool false)))),o 25 (.mv (.t 31))])
 (.keep [5,6,25] (.cond (.t 25) (.seq (.ops [o 4 (.mv (.k (.c (.int .i32 (-2147483648)))))])
 .ret)
 (.seq (.ops [o 33 (.mv (.t 6)),o 34 (.bin 0 .eql (.t 33) (ki 0)),o 32 (.mv (.t 34))])
 (.cond (.t 32) (.seq (.ops [o 4 (.mv (.k (.c (.int .i32 0))))])
 .ret)
 (.seq (.ops [o 36 (.mv (.t 5)),o 37 (.bin 0 .lss (.t 36) (ki 0)),o 35 (.mv (.t 37))])
 (.cond (.t 35) (.seq (.ops [o 38 (.mv (.t 5)),o 39 (.bin 0 .mul (ki (-2)) (.t 38)),o 40 (.mv (.t 6)),o 41 (.bin 0 .add (.t 39) (.t 40)),o 42 (.mv (.t 6)),o 43 (.bin 0 .mul (ki 2) (.t 42)),o 44 (.bin 0 .quo (.t 41) (.t 43)),o 45 (.un .neg (.t 44)),o 46 (.call 82 [(.t 45)]),o 4 (.mv (.t 46))])
 .ret)
 .skip))))))))))
 (.keep [5,6] (.seq (.ops [o 47 (.mv (.t 5)),o 48 (.bin 0 .mul (ki 2) (.t 47)),o 49 (.mv (.t 6)),o 50 (.bin 0 .add (.t 48) (.t 49)),o 51 (.mv (.t 6)),o 52 (.bin 0 .mul (ki 2) (.t 51)),o 53 (.bin 0 .quo (.t 50) (.t 52)),o 54 (.call 82 [(.t 53)]),o 4 (.mv (.t 54))])
 .ret))))))),
 [.tmp 4]⟩
def F80 : AFun := ⟨3,
 (.seq (.ops [o 4 (.mv (.k (.c (.int .u64 0))))])
 (.seq (.ops [o 6 (.ld (.t 1)),o 7 (.mv (.t 0)),o 8 (.convi .i64 (.t 7)),o 9 (.mv (.t 0)),o 10 (.convi .i64 (.t 9)),o 11 (.bin 0 .mul (.t 8) (.t 10)),o 12 (.convi .u64 (.t 11)),o 13 (.call 81 [(.t 6),(.t 12),(.k (.c (.int .u64 0)))]),o 5 (.mv (.t 13)),o 14 (.ext 0 (.t 5)),o 15 (.ext 1 (.t 5)),e (.st 1 (.t 1) (.t 14)),o 4 (.mv (.t 15))])
 (.keep [2,4] (.ops [o 16 (.ld (.t 2)),o 17 (.mv (.t 4)),o 18 (.bin 0 .add (.t 16) (.t 17)),e (.st 1 (.t 2) (.t 18))])))),
 []⟩
def F82 : AFun := ⟨1,
 (.seq (.ops [o 2 (.mv (.k (.c (.int .i32 0))))])
 (.seq (.ops [o 3 (.mv (.t 0)),o 4 (.call 133 [(.t 3),(ki (-2147483648)),(ki 2147483647)]),o 5 (.convi .i32 (.t 4)),o 2 (.mv (.t 5))])
 .ret)),
 [.tmp 2]⟩
def F83 : AFun := ⟨1,
 (.seq (.ops [o 2 (.mv (.k (.c (.int .u32 0))))])
 (.scope (.seq (.ops [o 3 (.mv (.k (.c (.int .u32 0))))])
 (.seq (.ops [o 4 (.mv (.k (.c (.int .u32 2147483648))))])
 (.seq (.label 0)
 (.seq (.block 0 (.loop [0,3,4] (.block 1 (.seq (.seq (.ops [o 6 (.mv (.t 3)),o 7 (.mv (.t 4)),o 8 (.bin 0 .or (.t 6) (.t 7)),o 9 (.convi .u64 (.t 8)),o 5 (.mv (.t 9))])
 (.seq (.ops [o 10 (.mv (.t 5)),o 11 (.mv (.t 5)),o 12 (.bin 0 .mul (.t 10) (.t 11)),o 13 (.mv (.t 0)),o 14 (.bin 0 .leq (.t 12) (.t 13))])
 (.cond (.t 14) (.ops [o 15 (.mv (.t 3)),o 16 (.mv (.t 4)),o 17 (.bin 0 .or (.t 15) (.t 16)),o 3 (.mv (.t 17))])
 .skip)))
 (.keep [0,3,4] (.seq (.ops [o 18 (.mv (.t 4)),o 19 (.bin 0 .shr (.t 18) (.k (.c (.int .u64 1)))),o 4 (.mv (.t 19))])
 (.seq (.ops [o 20 (.mv (.t 4)),o 21 (.bin 0 .eql (.t 20) (.k (.c (.int .u32 0))))])
 (.cond (.t 21) (.exit 0)
 .skip))))))))
 (.seq (.ops [o 22 (.mv (.t 3)),o 2 (.mv (.t 22))])
 .ret))))))),
 [.tmp 2]⟩
def F84 : AFun := ⟨1,
 (.seq (.ops [o 2 (.mv (.k (.c (.int .i32 0))))])
 (.seq (.seq (.ops [o 3 (.mv (.t 0)),o 4 (.bin 0 .leq (.t 3) (.k (.c (.int .i32 0))))])
 (.cond (.t 4) (.seq (.ops [o 2 (.mv (.k (.c (.int .i32 0))))])
 .ret)
 .skip))
 (.seq (.ops [o 5 (.mv (.t 0)),o 6 (.convi .u64 (.t 5)),o 7 (.bin 0 .shl (.t 6) (.k (.c (.int .u64 16)))),o 8 (.call 83 [(.t 7)]),o 9 (.convi .i32 (.t 8)),o 2 (.mv (.t 9))])
 .ret))),
 [.tmp 2]⟩
def F85 : AFun := ⟨1,
 (.seq (.ops [o 2 (.mv (.k (.c (.int .i32 0))))])
 (.seq (.seq (.ops [o 3 (.mv (.t 0)),o 4 (.bin 0 .leq (.t 3) (.k (.c (.int .i32 0))))])
 (.cond (.t 4) (.seq (.ops [o 2 (.mv (.k (.c (.int .i32 2147483647))))])
 .ret)
 .skip))
 (.seq (.ops [o 5 (.mv (.t 0)),o 6 (.convi .u64 (.t 5)),o 7 (.bin 0 .quo (.k (.c (.int .u64 281474976710656))) (.t 6)),o 8 (.call 83 [(.t 7)]),o 9 (.convi .i64 (.t 8)),o 10 (.call 82 [(.t 9)]),o 2 (.mv (.t 10))])
 .ret))),
 [.tmp 2]⟩
def F86 : AFun := ⟨1,
 (.seq (.ops [o 2 (.mv (.k (.c (.int .i32 0))))])
 (.seq (.ops [o 3 (.mv (.t 0)),o 4 (.call 135 [(.t 3)]),o 5 (.call 134 [(.t 4)]),o 2 (.mv (.t 5))])
 .ret)),
 [.tmp 2]⟩
def F87 : AFun := ⟨1,
 (.seq (.ops [o 2 (.mv (.k (.c (.int .i32 0))))])
 (.seq (.ops [o 3 (.mv (.t 0)),o 4 (.call 135 [(.t 3)]),o 5 (.bin 0 .add (.t 4) (.k (.c (.int .u32 1073741824)))),o 6 (.call 134 [(.t 5)]),o 2 (.mv (.t 6))])
 .ret)),
 [.tmp 2]⟩
def F88 : AFun := ⟨2,
 (.seq (.ops [o 4 (.mv (.k (.c (.int .i32 0))))])
 (.seq (.seq (.ops [o 9 (.mv (.t 1)),o 10 (.bin 0 .eql (.t 9) (.k (.c (.int .i32 0))))])
 (.cond (.t 10) (.seq (.block 0 (.seq (.ops [o 12 (.mv (.t 0)),o 13 (.bin 0 .gtr (.t 12) (.k (.c (.int .i32 0)))),o 11 (.mv (.t 13))])
 (.cond (.t 11) (.seq (.ops [o 4 (.mv (.k (.c (.int .i32 2147483647))))])
 .ret)
 (.seq (.ops [o 15 (.mv (.t 0)),o 16 (.bin 0 .lss (.t 15) (.k (.c (.int .i32 0)))),o 14 (.mv (.t 16))])
 (.cond (.t 14) (.seq (.ops [o 4 (.mv (.k (.c (.int .i32 (-2147483648)))))])
 .ret)
 .skip)))))
 (.seq (.ops [o 4 (.mv (.k (.c (.int .i32 0))))])
 .ret))
 .skip))
 (.seq (.ops [o 17 (.mv (.t 0)),o 18 (.convi .i64 (.t 17)),o 19 (.bin 0 .mul (.t 18) (ki 65536)),o 20 (.mv (.t 1)),o 21 (.convi .i64 (.t 20)),o 5 (.mv (.t 19)),o 6 (.mv (.t 21))])
 (.keep [5,6] (.seq (.ops [o 22 (.mv (.t 5)),o 23 (.bin 0 .lss (.t 22) (ki 0)),o 24 (.mv (.t 6)),o 25 (.bin 0 .lss (.t 24) (ki 0)),o 26 (.bin 1 .neq (.t 23) (.t 25)),o 7 (.mv (.t 26))])
 (.seq (.seq (.ops [o 27 (.mv (.t 5)),o 28 (.bin 0 .lss (.t 27) (ki 0))])
 (.cond (.t 28) (.ops [o 29 (.mv (.t 5)),o 30 (.un .neg (.t 29)),o 5 (.mv (.t 30))])
 .skip))
 (.seq (.seq (.ops [o 31 (.mv (.t 6)),o 32 (.bin 0 .lss (.t 31) (ki 0))])
 (.keep [5,6,7,32] (.cond (.t 32) (.ops [o 33 (.mv (.t 6)),o 34 (.un .neg (.t 33)),o 6 (.mv (.t 34))])
 .skip)))
 (.seq (.ops [o 35 (.mv (.t 5)),o 36 (.mv (.t 6)),o 37 (.bin 0 .quo (.t 35) (.t 36)),o 8 (.mv (.t 37))])
 (.seq (.seq (.ops [o 38 (.mv (.t 5)),o 39 (.mv (.t 6)),o 40 (.bin 0 .rem (.t 38) (.t 39)),o 41 (.bin 0 .mul (ki 2) (.t 40)),o 42 (.mv (.t 6)),o 43 (.bin 0 .geq (.t 41) (.t 42))])
 (.keep [7,8,43] (.cond (.t 43) (.ops [o 44 (.mv (.t 8)),o 45 (.bin 0 .add (.t 44) (ki 1)),o 8 (.mv (.t 45))])
 .skip)))
 (.seq (.seq (.ops [o 46 (.mv (.t 7))])
 (.cond (.t 46) (.ops [o 47 (.mv (.t 8)),o 48 (.un .neg (.t 47)),o 8 (.mv (.t 48))])
 .skip))
 (.seq (.ops [o 49 (.mv (.t 8)),o 50 (.call 91 [(.t 49)]),o 4 (.mv (.t 50))])
 .ret))))))))))),
 [.tmp 4]⟩
def F89 : AFun := ⟨4,
 (.seq (.ops [o 6 (.box (.t 2)),o 7 (.box (.t 3)),o 8 (.alloc [(.int .i32 0),(.int .i32 0),(.int .i32 0),(.int .i32 0)])])
 (.seq (.ops [o 9 (.alloc [(.int .i32 0),(.int .i32 0),(.int .i32 0),(.int .i32 0)])])
 (.seq (.seq (.ops [o 10 (.mv (ki 0))])
 (.block 0 (.loop [0,1,6,7,8,9,10] (.seq (.seq (.ops [o 11 (.mv (.t 10)),o 12 (.mv (.t 1)),o 13 (.bin 0 .lss (.t 11) (.t 12))])
 (.cond (.t 13) .skip
 (.exit 0)))
 (.seq (.block 1 (.dops [.op 0 (o 16 (.mv (.t 10))),.op 1 (o 17 (.mv (.t 0))),.op 2 (o 18 (.mv (.t 10))),.op 5 (o 21 (.mv (.t 10))),.op 3 (o 19 (.ixp 4 1 (.t 6) (.t 18))),.op 6 (o 22 (.ixp 4 1 (.t 7) (.t 21))),.op 4 (o 20 (.ld (.t 19))),.op 7 (o 23 (.ld (.t 22))),.eff 8 (o 24 (.call 49 [(.t 17),(.t 20),(.t 23)])) [],.op 9 (o 25 (.ixp 4 1 (.t 9) (.t 16))),.eff 10 (e (.st 1 (.t 25) (.t 24))) []]))
 (.keep [0,1,6,7,8,9,10] (.ops [o 14 (.mv (.t 10)),o 15 (.bin 0 .add (.t 14) (ki 1)),o 10 (.mv (.t 15))])))))))
 (.seq (.ops [o 26 (.ldn 4 (.t 9)),e (.st 4 (.t 8) (.t 26))])
 .ret)))),
 [.celln 8 4]⟩
def F90 : AFun := ⟨2,
 (.seq (.ops [o 4 (.mv (.k (.c (.int .i32 0))))])
 (.seq (.ops [o 5 (.mv (.t 0)),o 6 (.convi .i64 (.t 5)),o 7 (.mv (.t 1)),o 8 (.convi .i64 (.t 7)),o 9 (.bin 0 .add (.t 6) (.t 8)),o 10 (.call 91 [(.t 9)]),o 4 (.mv (.t 10))])
 .ret)),
 [.tmp 4]⟩
def F91 : AFun := ⟨1,
 (.seq (.ops [o 2 (.mv (.k (.c (.int .i32 0))))])
 (.seq (.seq (.ops [o 3 (.mv (.t 0)),o 4 (.bin 0 .gtr (.t 3) (ki 2147483647))])
 (.cond (.t 4) (.seq (.ops [o 2 (.mv (.k (.c (.int .i32 2147483647))))])
 .ret)
 .skip))
 (.seq (.seq (.ops [o 5 (.mv (.t 0)),o 6 (.bin 0 .lss (.t 5) (ki (-2147483648)))])
 (.cond (.t 6) (.seq (.ops [o 2 (.mv (.k (.c (.int .i32 (-2147483648)))))])
 .ret)
 .skip))
 (.seq (.ops [o 7 (.mv (.t 0)),o 8 (.convi .i32 (.t 7)),o 2 (.mv (.t 8))])
 .ret)))),
 [.tmp 2]⟩
def F92 : AFun := ⟨1,
 (.seq (.ops [o 2 (.mv (.k (.c (.int .u64 0))))])
 (.seq (.ops [o 3 (.mv (.k (.c (.int .u64 0)))),o 4 (.mv (.k (.c (.int .u64 4294967296))))])
 (.seq (.block 0 (.loop [0,3,4] (.seq (.seq (.ops [o 6 (.mv (.t 4)),o 7 (.mv (.t 3)),o 8 (.bin 0 .sub (.t 6) (.t 7)),o 9 (.bin 0 .gtr (.t 8) (.k (.c (.int .u64 1))))])
 (.cond (.t 9) .skip
 (.exit 0)))
 (.block 1 (.seq (.ops [o 10 (.mv (.t 3)),o 11 (.mv (.t 4)),o 12 (.bin 0 .add (.t 10) (.t 11)),o 13 (.bin 0 .quo (.t 12) (.k (.c (.int .u64 2)))),o 5 (.mv (.t 13))])
 (.seq (.ops [o 14 (.mv (.t 5)),o 15 (.mv (.t 5)),o 16 (.bin 0 .mul (.t 14) (.t 15)),o 17 (.mv (.t 0)),o 18 (.bin 0 .leq (.t 16) (.t 17))])
 (.keep [0,3,4,5,18] (.cond (.t 18) (.ops [o 19 (.mv (.t 5)),o 3 (.mv (.t 19))])
 (.ops [o 20 (.mv (.t 5)),o 4 (.mv (.t 20))])))))))))
 (.seq (.ops [o 21 (.mv (.t 3)),o 2 (.mv (.t 21))])
 .ret)))),
 [.tmp 2]⟩
def F93 : AFun := ⟨4,
 (.seq (.ops [o 8 (.mv (.k (.c (.int .i32 0))))])
 (.seq (.ops [o 9 (.mv (.t 0)),o 10 (.mv (.t 1)),o 11 (.call 96 [(.t 9),(.t 10)]),o 12 (.mv (.t 2)),o 13 (.mv (.t 3)),o 14 (.call 96 [(.t 12),(.t 13)]),o 15 (.call 95 [(.t 11),(.t 14)]),o 8 (.mv (.t 15))])
 .ret)),
 [.tmp 8]⟩
def F94 : AFun := ⟨1,
 (.seq (.ops [o 2 (.mv (.k (.c (.int .i32 0))))])
 (.seq (.ops [o 3 (.mv (.t 0)),o 4 (.bin 0 .rem (.t 3) (ki 4294967296)),o 0 (.mv (.t 4))])
 (.seq (.seq (.ops [o 5 (.mv (.t 0)),o 6 (.bin 0 .lss (.t 5) (ki (-2147483648)))])
 (.cond (.t 6) (.ops [o 7 (.mv (.t 0)),o 8 (.bin 0 .add (.t 7) (ki 4294967296)),o 0 (.mv (.t 8))])
 .skip))
 (.seq (.seq (.ops [o 9 (.mv (.t 0)),o 10 (.bin 0 .gtr (.t 9) (ki 2147483647))])
 (.cond (.t 10) (.ops [o 11 (.mv (.t 0)),o 12 (.bin 0 .sub (.t 11) (ki 4294967296)),o 0 (.mv (.t 12))])
 .skip))
 (.keep [0] (.seq (.ops [o 13 (.mv (.t 0)),o 14 (.convi .i32 (.t 13)),o 2 (.mv (.t 14))])
 .ret)))))),
 [.tmp 2]⟩
def F95 : AFun := ⟨2,
 (.seq (.ops [o 4 (.mv (.k (.c (.int .i32 0))))])
 (.seq (.ops [o 5 (.mv (.t 0)),o 6 (.convi .i64 (.t 5)),o 7 (.mv (.t 1)),o 8 (.convi .i64 (.t 7)),o 9 (.bin 0 .sub (.t 6) (.t 8)),o 10 (.call 91 [(.t 9)]),o 4 (.mv (.t 10))])
 .ret)),
 [.tmp 4]⟩
def F96 : AFun := ⟨2,
 (.seq (.ops [o 4 (.mv (.k (.c (.int .i32 0))))])
 (.seq (.ops [o 5 (.mv (.t 0)),o 6 (.convi .i64 (.t 5)),o 7 (.mv (.t 1)),o 8 (.convi .i64 (.t 7)),o 9 (.bin 0 .mul (.t 6) (.t 8)),o 10 (.bin 0 .add (.t 9) (ki 32768)),o 11 (.call 136 [(.t 10),(ki 65536)]),o 12 (.call 91 [(.t 11)]),o 4 (.mv (.t 12))])
 .ret)),
 [.tmp 4]⟩
def F97 : AFun := ⟨1,
 (.seq (.ops [o 2 (.mv (.k (.c (.int .i32 0))))])
 (.seq (.ops [o 3 (.mv (.t 0)),o 4 (.convi .i64 (.t 3)),o 5 (.call 136 [(.t 4),(ki 65536)]),o 6 (.bin 0 .mul (.t 5) (ki 65536)),o 7 (.call 91 [(.t 6)]),o 2 (.mv (.t 7))])
 .ret)),
 [.tmp 2]⟩
def F98 : AFun := ⟨1,
 (.seq (.ops [o 2 (.mv (.k (.c (.int .i32 0))))])
 (.seq (.ops [o 8 (.mv (.t 0)),o 9 (.convi .i64 (.t 8)),o 10 (.call 137 [(.t 9),(ki 16)]),o 3 (.mv (.t 10))])
 (.seq (.ops [o 11 (.mv (.t 0)),o 12 (.convi .i64 (.t 11)),o 13 (.mv (.t 3)),o 14 (.bin 0 .mul (.t 13) (ki 65536)),o 15 (.bin 0 .sub (.t 12) (.t 14)),o 4 (.mv (.t 15))])
 (.seq (.ops [o 5 (.mv (ki 1073741824))])
 (.seq (.seq (.ops [o 16 (.call 138 []),o 17 (.mv (ki 0))])
 (.block 0 (.loop [3,4,5,16,17] (.seq (.ops [o 18 (.bin 0 .lss (.t 17) (ki 16))])
 (.seq (.cond (.t 18) .skip
 (.exit 0))
 (.seq (.block 1 (.seq (.ops [o 19 (.mv (.t 17)),o 20 (.ixv 16 none (.t 16) (.t 17)),o 6 (.mv (.t 19)),o 7 (.mv (.t 20))])
 (.seq (.ops [o 21 (.mv (.t 4)),o 22 (.mv (.t 6)),o 23 (.bin 0 .sub (ki 15) (.t 22)),o 24 (.bin 0 .shl (ki 1) (.t 23)),o 25 (.bin 0 .quo (.t 21) (.t 24)),o 26 (.bin 0 .rem (.t 25) (ki 2)),o 27 (.bin 0 .eql (.t 26) (ki 1))])
 (.keep [3,4,5,7,16,17,27] (.cond (.t 27) (.ops [o 28 (.mv (.t 5)),o 29 (.mv (.t 7)),o 30 (.bin 0 .mul (.t 28) (.t 29)),o 31 (.bin 0 .quo (.t 30) (ki 1073741824)),o 5 (.mv (.t 31))])
 .skip)))))
 (.ops [o 32 (.bin 0 .add (.t 17) (ki 1)),o 17 (.mv (.t 32))])))))))
 (.seq (.seq (.ops [o 33 (.mv (.t 3)),o 34 (.bin 0 .geq (.t 33) (ki 15))])
 (.keep [3,5,34] (.cond (.t 34) (.seq (.ops [o 2 (.mv (.k (.c (.int .i32 2147483647))))])
 .ret)
 .skip)))
 (.seq (.seq (.ops [o 35 (.mv (.t 3)),o 36 (.bin 0 .lss (.t 35) (ki (-30)))])
 (.cond (.t 36) (.seq (.ops [o 2 (.mv (.k (.c (.int .i32 0))))])
 .ret)
 .skip))
 (.seq (.ops [o 37 (.mv (.t 5)),o 38 (.mv (.t 3)),o 39 (.bin 0 .sub (ki 14) (.t 38)),o 40 (.bin 0 .shl (ki 1) (.t 39)),o 41 (.bin 0 .quo (.t 37) (.t 40)),o 42 (.convi .i32 (.t 41)),o 2 (.mv (.t 42))])
 .ret)))))))),
 [.tmp 2]⟩
def F99 : AFun := ⟨1,
 (.seq (.ops [o 2 (.mv (.k (.c (.int .i32 0))))])
 (.seq (.seq (.ops [o 6 (.mv (.t 0)),o 7 (.bin 0 .leq (.t 6) (.k (.c (.int .i32 0))))])
 (.cond (.t 7) (.seq (.ops [o 2 (.mv (.k (.c (.int .i32 (-2147483648)))))])
 .ret)
 .skip))
 (.seq (.ops [o 3 (.mv (ki 0))])
 (.seq (.block 0 (.loop [0,3] (.seq (.seq (.ops [o 8 (.mv (.t 0)),o 9 (.convi .i64 (.t 8)),o 10 (.mv (.t 3)),o 11 (.bin 0 .add (.t 10) (ki 1)),o 12 (.bin 0 .shl (ki 1) (.t 11)),o 13 (.bin 0 .geq (.t 9) (.t 12))])
 (.cond (.t 13) .skip
 (.exit 0)))
 (.block 1 (.ops [o 14 (.mv (.t 3)),o 15 (.bin 0 .add (.t 14) (ki 1)),o 3 (.mv (.t 15))])))))
 (.seq (.ops [o 16 (.mv (.t 0)),o 17 (.convi .i64 (.t 16)),o 18 (.mv (.t 3)),o 19 (.bin 0 .sub (ki 30) (.t 18)),o 20 (.bin 0 .shl (.t 17) (.t 19)),o 4 (.mv (.t 20))])
 (.keep [3,4] (.seq (.ops [o 5 (.mv (ki 0))])
 (.seq (.seq (.ops [o 21 (.mv (ki 0))])
 (.block 2 (.loop [3,4,5,21] (.seq (.ops [o 22 (.bin 0 .lss (.t 21) (ki 16))])
 (.seq (.cond (.t 22) .skip
 (.exit 2))
 (.seq (.block 3 (.seq (.ops [o 23 (.mv (.t 4)),o 24 (.mv (.t 4)),o 25 (.bin 0 .mul (.t 23) (.t 24)),o 26 (.bin 0 .quo (.t 25) (ki 1073741824)),o 4 (.mv (.t 26))])
 (.seq (.ops [o 27 (.mv (.t 5)),o 28 (.bin 0 .mul (.t 27) (ki 2)),o 5 (.mv (.t 28))])
 (.seq (.ops [o 29 (.mv (.t 4)),o 30 (.bin 0 .geq (.t 29) (ki 2147483648))])
 (.keep [3,4,5,21,30] (.cond (.t 30) (.seq (.ops [o 31 (.mv (.t 4)),o 32 (.bin 0 .quo (.t 31) (ki 2)),o 4 (.mv (.t 32))])
 (.ops [o 33 (.mv (.t 5)),o 34 (.bin 0 .add (.t 33) (ki 1)),o 5 (.mv (.t 34))]))
 .skip))))))
 (.ops [o 35 (.bin 0 .add (.t 21) (ki 1)),o 21 (.mv (.t 35))])))))))
 (.seq (.ops [o 36 (.mv (.t 3)),o 37 (.bin 0 .sub (.t 36) (ki 16)),o 38 (.bin 0 .mul (.t 37) (ki 65536)),o 39 (.mv (.t 5)),o 40 (.bin 0 .add (.t 38) (.t 39)),o 41 (.convi .i32 (.t 40)),o 2 (.mv (.t 41))])
 .ret))))))))),
 [.tmp 2]⟩
def F100 : AFun := ⟨1,
 (.seq (.ops [o 2 (.mv (.k (.c (.int .i32 0))))])
 (.seq (.seq (.ops [o 3 (.mv (.t 0)),o 4 (.bin 0 .leq (.t 3) (.k (.c (.int .i32 0))))])
 (.cond (.t 4) (.seq (.ops [o 2 (.mv (.k (.c (.int .i32 0))))])
 .ret)
 .skip))
 (.seq (.ops [o 5 (.mv (.t 0)),o 6 (.convi .u64 (.t 5)),o 7 (.bin 0 .mul (.t 6) (.k (.c (.int .u64 65536)))),o 8 (.call 92 [(.t 7)]),o 9 (.convi .i32 (.t 8)),o 2 (.mv (.t 9))])
 .ret))),
 [.tmp 2]⟩
def F101 : AFun := ⟨1,
 (.seq (.ops [o 2 (.mv (.k (.c (.int .i32 0))))])
 (.seq (.seq (.ops [o 3 (.mv (.t 0)),o 4 (.bin 0 .leq (.t 3) (.k (.c (.int .i32 0))))])
 (.cond (.t 4) (.seq (.ops [o 2 (.mv (.k (.c (.int .i32 2147483647))))])
 .ret)
 .skip))
 (.seq (.ops [o 5 (.mv (.t 0)),o 6 (.convi .u64 (.t 5)),o 7 (.bin 0 .quo (.k (.c (.int .u64 281474976710656))) (.t 6)),o 8 (.call 92 [(.t 7)]),o 9 (.convi .i64 (.t 8)),o 10 (.call 91 [(.t 9)]),o 2 (.mv (.t 10))])
 .ret))),
 [.tmp 2]⟩
def F102 : AFun := ⟨1,
 (.seq (.ops [o 2 (.mv (.k (.c (.int .i32 0))))])
 (.seq (.ops [o 3 (.mv (.t 0)),o 4 (.call 140 [(.t 3)]),o 5 (.call 139 [(.t 4)]),o 2 (.mv (.t 5))])
 .ret)),
 [.tmp 2]⟩
def F103 : AFun := ⟨1,
 (.seq (.ops [o 2 (.mv (.k (.c (.int .i32 0))))])
 (.seq (.ops [o 3 (.mv (.t 0)),o 4 (.call 140 [(.t 3)]),o 5 (.bin 0 .add (.t 4) (ki 1073741824)),o 6 (.bin 0 .rem (.t 5) (ki 4294967296)),o 7 (.call 139 [(.t 6)]),o 2 (.mv (.t 7))])
 .ret)),
 [.tmp 2]⟩
def F104 : AFun := ⟨2,
 (.seq (.ops [o 4 (.mv (.k (.c (.int .i32 0))))])
 (.seq (.seq (.ops [o 5 (.mv (.t 0)),o 6 (.bin 0 .eql (.t 5) (ki 0))])
 (.cond (.t 6) (.seq (.ops [o 7 (.mv (.t 1)),o 8 (.call 50 [(.t 7)]),o 4 (.mv (.t 8))])
 .ret)
 .skip))
 (.seq (.seq (.ops [o 9 (.mv (.t 0)),o 10 (.bin 0 .eql (.t 9) (ki 1))])
 (.cond (.t 10) (.seq (.ops [o 11 (.mv (.t 1)),o 12 (.call 141 [(.t 11)]),o 4 (.mv (.t 12))])
 .ret)
 .skip))
 (.seq (.seq (.ops [o 13 (.mv (.t 0)),o 14 (.bin 0 .eql (.t 13) (ki 3))])
 (.keep [0,1,14] (.cond (.t 14) (.seq (.ops [o 15 (.mv (.t 1)),o 16 (.call 97 [(.t 15)]),o 4 (.mv (.t 16))])
 .ret)
 .skip)))
 (.seq (.seq (.ops [o 17 (.mv (.t 0)),o 18 (.bin 0 .eql (.t 17) (ki 4))])
 (.cond (.t 18) (.seq (.ops [o 19 (.mv (.t 1)),o 20 (.call 142 [(.t 19)]),o 4 (.mv (.t 20))])
 .ret)
 .skip))
 (.seq (.seq (.ops [o 21 (.mv (.t 1)),o 22 (.bin 0 .gtr (.t 21) (.k (.c (.int .i32 0))))])
 (.cond (.t 22) (.seq (.ops [o 4 (.mv (.k (.c (.int .i32 65536))))])
 .ret)
 .skip))
 (.seq (.seq (.ops [o 23 (.mv (.t 1)),o 24 (.bin 0 .lss (.t 23) (.k (.c (.int .i32 0))))])
 (.keep [24] (.cond (.t 24) (.seq (.ops [o 4 (.mv (.k (.c (.int .i32 (-65536)))))])
 .ret)
 .skip)))
 (.seq (.ops [o 4 (.mv (.k (.c (.int .i32 0))))])
 .ret)))))))),
 [.tmp 4]⟩
def F105 : AFun := ⟨3,
 (.seq (.ops [o 6 (.mv (ki 0))])
 (.seq (.ops [o 7 (.mv (.t 0)),o 8 (.mv (.t 1)),o 9 (.mx [(.t 7),(.t 8)]),o 10 (.mv (.t 2)),o 11 (.mn [(.t 9),(.t 10)]),o 6 (.mv (.t 11))])
 .ret)),
 [.tmp 6]⟩
def F106 : AFun := ⟨1,
 (.seq (.ops [o 2 (.mv (.k (.c (.bool false))))])
 (.jscope 0 (.seq (.label 0)
 (.seq (.dops [.op 0 (o 6 (.mv (.t 0))),.op 1 (o 7 (.mv (.t 0))),.op 5 (o 11 (.mv (.t 0))),.op 2 (o 8 (.nilck (.t 7))),.op 6 (o 12 (.nilck (.t 11))),.op 3 (o 9 (.fa 0 (.t 8))),.op 7 (o 13 (.fa 1 (.t 12))),.op 4 (o 10 (.ld (.t 9))),.op 8 (o 14 (.ld (.t 13))),.op 9 (o 15 (.slcs (.t 10) (some (.t 14)) none)),.eff 10 (o 16 (.call 143 [(.t 15),(.f 144)])) [],.eff 11 (o 17 (.call 108 [(.t 6),(.t 16)])) []])
 (.seq (.seq (.ops [o 18 (.mv (.t 0)),o 19 (.call 145 [(.t 18),(ki 0)]),o 20 (.bin 0 .neq (.t 19) (.k (.c (.int .u8 47))))])
 (.keep [0,20] (.cond (.t 20) (.seq (.ops [o 2 (.mv (.k (.c (.bool true))))])
 .ret)
 .skip)))
 (.seq (.seq (.dops [.op 0 (o 21 (.mv (.t 0))),.op 4 (o 25 (.mv (.t 0))),.op 1 (o 22 (.nilck (.t 21))),.op 5 (o 26 (.nilck (.t 25))),.op 2 (o 23 (.fa 0 (.t 22))),.op 6 (o 27 (.fa 1 (.t 26))),.op 3 (o 24 (.ld (.t 23))),.op 7 (o 28 (.ld (.t 27))),.op 8 (o 29 (.slcs (.t 24) (some (.t 28)) none)),.op 9 (o 3 (.mv (.t 29)))])
 (.seq (.ops [o 30 (.mv (.t 0)),o 31 (.call 145 [(.t 30),(ki 1)])])
 (.keep [0,3,31] (.block 0 (.seq (.ops [o 33 (.bin 0 .eql (.t 31) (.k (.c (.int .u8 47)))),o 32 (.mv (.t 33))])
 (.cond (.t 32) (.seq (.ops [o 34 (.mv (.t 3)),o 35 (.call 146 [(.t 34),(.k (.c (.int .u8 10)))]),o 4 (.mv (.t 35))])
 (.seq (.seq (.ops [o 36 (.mv (.t 4)),o 37 (.bin 0 .lss (.t 36) (ki 0))])
 (.cond (.t 37) (.ops [o 38 (.mv (.t 3)),o 39 (.len 0 (.t 38)),o 4 (.mv (.t 39))])
 .skip))
 (.seq (.ops [o 40 (.mv (.t 0)),o 41 (.mv (.t 4)),o 42 (.call 108 [(.t 40),(.t 41)])])
 (.goto 0))))
 (.seq (.ops [o 44 (.bin 0 .eql (.t 31) (.k (.c (.int .u8 42)))),o 43 (.mv (.t 44))])
 (.cond (.t 43) (.seq (.ops [o 45 (.mv (.t 3)),o 46 (.slcs (.t 45) (some (ki 2)) none),o 47 (.call 147 [(.t 46),(.k (.c (.str (bs [42,47]))))]),o 5 (.mv (.t 47))])
 (.seq (.seq (.ops [o 48 (.mv (.t 5)),o 49 (.bin 0 .lss (.t 48) (ki 0))])
 (.cond (.t 49) (.seq (.ops [o 2 (.mv (.k (.c (.bool false))))])
 .ret)
 .skip))
 (.seq (.ops [o 50 (.mv (.t 0)),o 51 (.mv (.t 5)),o 52 (.bin 0 .add (.t 51) (ki 4)),o 53 (.call 108 [(.t 50),(.t 52)])])
 (.goto 0))))
 .skip))))))))
 (.keep [] (.seq (.ops [o 2 (.mv (.k (.c (.bool true))))])
 .ret))))))
 (.keep [0] (.seq .skip
 (.seq (.dops [.op 0 (o 6 (.mv (.t 0))),.op 1 (o 7 (.mv (.t 0))),.op 5 (o 11 (.mv (.t 0))),.op 2 (o 8 (.nilck (.t 7))),.op 6 (o 12 (.nilck (.t 11))),.op 3 (o 9 (.fa 0 (.t 8))),.op 7 (o 13 (.fa 1 (.t 12))),.op 4 (o 10 (.ld (.t 9))),.op 8 (o 14 (.ld (.t 13))),.op 9 (o 15 (.slcs (.t 10) (some (.t 14)) none)),.eff 10 (o 16 (.call 143 [(.t 15),(.f 144)])) [],.eff 11 (o 17 (.call 108 [(.t 6),(.t 16)])) []])
 (.seq (.seq (.ops [o 18 (.mv (.t 0)),o 19 (.call 145 [(.t 18),(ki 0)]),o 20 (.bin 0 .neq (.t 19) (.k (.c (.int .u8 47))))])
 (.keep [0,20] (.cond (.t 20) (.seq (.ops [o 2 (.mv (.k (.c (.bool true))))])
 .ret)
 .skip)))
 (.seq (.seq (.dops [.op 0 (o 21 (.mv (.t 0))),.op 4 (o 25 (.mv (.t 0))),.op 1 (o 22 (.nilck (.t 21))),.op 5 (o 26 (.nilck (.t 25))),.op 2 (o 23 (.fa 0 (.t 22))),.op 6 (o 27 (.fa 1 (.t 26))),.op 3 (o 24 (.ld (.t 23))),.op 7 (o 28 (.ld (.t 27))),.op 8 (o 29 (.slcs (.t 24) (some (.t 28)) none)),.op 9 (o 3 (.mv (.t 29)))])
 (.seq (.ops [o 30 (.mv (.t 0)),o 31 (.call 145 [(.t 30),(ki 1)])])
 (.keep [0,3,31] (.block 0 (.seq (.ops [o 33 (.bin 0 .eql (.t 31) (.k (.c (.int .u8 47)))),o 32 (.mv (.t 33))])
 (.cond (.t 32) (.seq (.ops [o 34 (.mv (.t 3)),o 35 (.call 146 [(.t 34),(.k (.c (.int .u8 10)))]),o 4 (.mv (.t 35))])
 (.seq (.seq (.ops [o 36 (.mv (.t 4)),o 37 (.bin 0 .lss (.t 36) (ki 0))])
 (.cond (.t 37) (.ops [o 38 (.mv (.t 3)),o 39 (.len 0 (.t 38)),o 4 (.mv (.t 39))])
 .skip))
 (.seq (.ops [o 40 (.mv (.t 0)),o 41 (.mv (.t 4)),o 42 (.call 108 [(.t 40),(.t 41)])])
 (.goto 0))))
 (.seq (.ops [o 44 (.bin 0 .eql (.t 31) (.k (.c (.int .u8 42)))),o 43 (.mv (.t 44))])
 (.cond (.t 43) (.seq (.ops [o 45 (.mv (.t 3)),o 46 (.slcs (.t 45) (some (ki 2)) none),o 47 (.call 147 [(.t 46),(.k (.c (.str (bs [42,47]))))]),o 5 (.mv (.t 47))])
 (.seq (.seq (.ops [o 48 (.mv (.t 5)),o 49 (.bin 0 .lss (.t 48) (ki 0))])
 (.cond (.t 49) (.seq (.ops [o 2 (.mv (.k (.c (.bool false))))])
 .ret)
 .skip))
 (.seq (.ops [o 50 (.mv (.t 0)),o 51 (.mv (.t 5)),o 52 (.bin 0 .add (.t 51) (ki 4)),o 53 (.call 108 [(.t 50),(.t 52)])])
 (.goto 0))))
 .skip))))))))
 (.keep [] (.seq (.ops [o 2 (.mv (.k (.c (.bool true))))])
 .ret))))))))),
 [.tmp 2]⟩
def F107 : AFun := ⟨1,
 (.seq (.ops [o 2 (.alloc [(.int .i64 0),(.str (bs [])),(.int .i32 0),(.int .i64 0),(.int .i64 0)]),o 3 (.mv (ki 0))])
 (.seq (.ops [o 7 (.mv (.t 0)),o 8 (.call 145 [(.t 7),(ki 0)]),o 4 (.mv (.t 8))])
 (.seq (.block 0 (.seq (.ops [o 10 (.mv (.t 4)),o 11 (.call 148 [(.t 10)]),o 9 (.mv (.t 11))])
 (.cond (.t 9) (.seq (.dops [.op 0 (o 12 (.mv (.t 0))),.op 4 (o 16 (.mv (.t 0))),.op 1 (o 13 (.nilck (.t 12))),.op 5 (o 17 (.nilck (.t 16))),.op 2 (o 14 (.fa 0 (.t 13))),.op 6 (o 18 (.fa 1 (.t 17))),.op 3 (o 15 (.ld (.t 14))),.op 7 (o 19 (.ld (.t 18))),.op 8 (o 20 (.slcs (.t 15) (some (.t 19)) none)),.eff 9 (o 21 (.call 143 [(.t 20),(.f 149)])) [],.op 10 (o 5 (.mv (.t 21)))])
 (.keep [0,2,5] (.seq (.seq (.ops [o 22 (.mv (.t 5)),o 23 (.bin 0 .gtr (.t 22) (ki 32))])
 (.cond (.t 23) (.seq (.ops [o 24 (.agg [(.int .i64 0),(.str (bs [])),(.int .i32 0),(.int .i64 0),(.int .i64 0)] []),e (.st 5 (.t 2) (.t 24)),o 3 (.mv (ki 3))])
 .ret)
 .skip))
 (.seq (.dops [.op 0 (o 25 (.mv (.t 0))),.op 4 (o 29 (.mv (.t 0))),.op 8 (o 33 (.mv (.t 0))),.op 12 (o 37 (.mv (.t 5))),.op 1 (o 26 (.nilck (.t 25))),.op 5 (o 30 (.nilck (.t 29))),.op 9 (o 34 (.nilck (.t 33))),.op 2 (o 27 (.fa 0 (.t 26))),.op 6 (o 31 (.fa 1 (.t 30))),.op 10 (o 35 (.fa 1 (.t 34))),.op 3 (o 28 (.ld (.t 27))),.op 7 (o 32 (.ld (.t 31))),.op 11 (o 36 (.ld (.t 35))),.op 13 (o 38 (.bin 0 .add (.t 36) (.t 37))),.op 14 (o 39 (.slcs (.t 28) (some (.t 32)) (some (.t 38)))),.op 15 (o 40 (.agg [(.int .i64 0),(.str (bs [])),(.int .i32 0),(.int .i64 0),(.int .i64 0)] [(0,1,(ki 1)),(1,1,(.t 39))])),.eff 16 (e (.st 5 (.t 2) (.t 40))) [],.op 17 (o 3 (.mv (ki 0)))])
 .ret))))
 (.seq (.seq (.ops [o 42 (.mv (.t 4)),o 43 (.call 150 [(.t 42)]),o 41 (.mv (.t 43))])
 (.cond (.t 41) .skip
 (.ops [o 44 (.mv (.t 4)),o 45 (.bin 0 .eql (.t 44) (.k (.c (.int .u8 46)))),o 46 (.mv (.t 45)),⟨(some 47),(.mv (.t 0)),some (46,true)⟩,⟨(some 48),(.call 145 [(.t 47),(ki 1)]),some (46,true)⟩,⟨(some 49),(.call 150 [(.t 48)]),some (46,true)⟩,o 50 (.pick (.t 46) (.t 49) (.k (.c (.bool false)))),o 41 (.mv (.t 50))])))
 (.keep [0,2,41] (.cond (.t 41) (.seq (.ops [o 51 (.mv (.t 0)),o 52 (.call 151 [(.t 51)]),o 53 (.ext 0 (.t 52)),o 54 (.ext 1 (.t 52)),e (.st 5 (.t 2) (.t 53)),o 3 (.mv (.t 54))])
 .ret)
 .skip))))))
 (.keep [0,2] (.seq (.ops [o 55 (.mv (.t 0)),o 56 (.call 152 [(.t 55)]),o 6 (.mv (.t 56))])
 (.seq (.seq (.ops [o 57 (.mv (.t 6)),o 58 (.bin 0 .eql (.t 57) (ki 0))])
 (.cond (.t 58) (.seq (.ops [o 59 (.agg [(.int .i64 0),(.str (bs [])),(.int .i32 0),(.int .i64 0),(.int .i64 0)] []),e (.st 5 (.t 2) (.t 59)),o 3 (.mv (ki 200))])
 .ret)
 .skip))
 (.seq (.dops [.op 0 (o 60 (.mv (.t 0))),.op 4 (o 64 (.mv (.t 0))),.op 8 (o 68 (.mv (.t 0))),.op 12 (o 72 (.mv (.t 6))),.op 1 (o 61 (.nilck (.t 60))),.op 5 (o 65 (.nilck (.t 64))),.op 9 (o 69 (.nilck (.t 68))),.op 2 (o 62 (.fa 0 (.t 61))),.op 6 (o 66 (.fa 1 (.t 65))),.op 10 (o 70 (.fa 1 (.t 69))),.op 3 (o 63 (.ld (.t 62))),.op 7 (o 67 (.ld (.t 66))),.op 11 (o 71 (.ld (.t 70))),.op 13 (o 73 (.bin 0 .add (.t 71) (.t 72))),.op 14 (o 74 (.slcs (.t 63) (some (.t 67)) (some (.t 73)))),.op 15 (o 75 (.agg [(.int .i64 0),(.str (bs [])),(.int .i32 0),(.int .i64 0),(.int .i64 0)] [(0,1,(ki 4)),(1,1,(.t 74))])),.eff 16 (e (.st 5 (.t 2) (.t 75))) [],.op 17 (o 3 (.mv (ki 0)))])
 .ret))))))),
 [.celln 2 5,.tmp 3]⟩
def F108 : AFun := ⟨2,
 (.seq (.dops [.op 0 (o 4 (.mv (.t 0))),.op 4 (o 8 (.mv (.t 0))),.op 8 (o 12 (.mv (.t 0))),.op 12 (o 16 (.mv (.t 0))),.op 16 (o 20 (.mv (.t 1))),.op 1 (o 5 (.nilck (.t 4))),.op 5 (o 9 (.nilck (.t 8))),.op 9 (o 13 (.nilck (.t 12))),.op 13 (o 17 (.nilck (.t 16))),.op 2 (o 6 (.fa 2 (.t 5))),.op 6 (o 10 (.fa 0 (.t 9))),.op 10 (o 14 (.fa 1 (.t 13))),.op 14 (o 18 (.fa 1 (.t 17))),.op 3 (o 7 (.ld (.t 6))),.op 7 (o 11 (.ld (.t 10))),.op 11 (o 15 (.ld (.t 14))),.op 15 (o 19 (.ld (.t 18))),.op 17 (o 21 (.bin 0 .add (.t 19) (.t 20))),.op 18 (o 22 (.slcs (.t 11) (some (.t 15)) (some (.t 21)))),.eff 19 (o 23 (.call 153 [(.t 22),(.k (.c (.str (bs [10]))))])) [o 7 (.ld (.t 6))],.op 20 (o 24 (.bin 0 .add (.t 7) (.t 23))),.op 21 (o 25 (.nilck (.t 4))),.op 22 (o 26 (.fa 2 (.t 25))),.eff 23 (e (.st 1 (.t 26) (.t 24))) []])
 (.keep [0,1] (.ops [o 27 (.mv (.t 0)),o 28 (.nilck (.t 27)),o 29 (.fa 1 (.t 28)),o 30 (.ld (.t 29)),o 31 (.mv (.t 1)),o 32 (.bin 0 .add (.t 30) (.t 31)),o 33 (.nilck (.t 27)),o 34 (.fa 1 (.t 33)),e (.st 1 (.t 34) (.t 32))]))),
 []⟩
def F109 : AFun := ⟨1,
 (.seq (.ops [o 1 (.box (.t 0)),o 2 (.mv (.k (.c (.bool false))))])
 (.seq (.ops [o 3 (.fa 3 (.t 1)),o 4 (.ld (.t 3)),o 5 (.bin 0 .lss (.t 4) (ki 0)),o 2 (.mv (.t 5))])
 .ret)),
 [.tmp 2]⟩
def F110 : AFun := ⟨1,
 (.seq (.ops [o 2 (.mv (ki 0))])
 (.seq (.seq (.ops [o 7 (.mv (.t 0)),o 8 (.len 1 (.t 7)),o 9 (.bin 0 .gtr (.t 8) (ki 2048))])
 (.cond (.t 9) (.seq (.ops [o 2 (.mv (ki 2))])
 .ret)
 .skip))
 (.seq (.seq (.ops [o 10 (.mv (.t 0)),o 11 (.len 1 (.t 10)),o 12 (.mv (ki 0))])
 (.block 0 (.loop [10,11,12] (.seq (.ops [o 13 (.bin 0 .lss (.t 12) (.t 11))])
 (.seq (.cond (.t 13) .skip
 (.exit 0))
 (.seq (.block 1 (.seq (.ops [o 14 (.ixa 5 (.t 10) (.t 12)),o 15 (.ldn 5 (.t 14)),o 4 (.alloc [(.int .i64 0),(.str (bs [])),(.int .i32 0),(.int .i64 0),(.int .i64 0)]),e (.st 5 (.t 4) (.t 15))])
 (.seq (.ops [o 17 (.fa 1 (.t 4)),o 18 (.ld (.t 17)),o 19 (.call 55 [(.t 18)]),o 16 (.mv (.t 19)),o 20 (.ext 0 (.t 16)),o 21 (.ext 1 (.t 16)),o 6 (.alloc [(.int .i64 0),(.int .i64 0)]),o 5 (.mv (.t 20)),e (.st 2 (.t 6) (.t 21))])
 (.keep [4,5,6,10,11,12] (.seq (.dops [.op 0 (o 22 (.fa 0 (.t 6))),.op 1 (o 23 (.ld (.t 22))),.op 2 (o 24 (.bin 0 .neq (.t 23) (ki 0))),.op 3 (o 25 (.mv (.t 24))),.op 4 (⟨(some 26),(.mv (.t 5)),some (25,false)⟩),.op 5 (⟨(some 27),(.len 1 (.t 26)),some (25,false)⟩),.op 6 (⟨(some 28),(.bin 0 .neq (.t 27) (ki 1)),some (25,false)⟩),.op 7 (o 29 (.pick (.t 25) (.k (.c (.bool true))) (.t 28))),.op 8 (o 30 (.mv (.t 29))),.op 9 (⟨(some 31),(.mv (.t 5)),some (30,false)⟩),.op 12 (⟨(some 34),(.ldn 5 (.t 4)),some (30,false)⟩),.op 10 (⟨(some 32),(.ixa 5 (.t 31) (ki 0)),some (30,false)⟩),.op 11 (⟨(some 33),(.ldn 5 (.t 32)),some (30,false)⟩),.eff 13 (⟨(some 35),(.call 154 [(.t 33),(.t 34)]),some (30,false)⟩) [],.op 14 (⟨(some 36),(.un .not (.t 35)),some (30,false)⟩),.op 15 (o 37 (.pick (.t 30) (.k (.c (.bool true))) (.t 36)))])
 (.keep [10,11,12,37] (.cond (.t 37) (.seq (.ops [o 2 (.mv (ki 2))])
 .ret)
 .skip)))))))
 (.ops [o 38 (.bin 0 .add (.t 12) (ki 1)),o 12 (.mv (.t 38))])))))))
 (.seq (.ops [o 2 (.mv (ki 0))])
 .ret)))),
 [.tmp 2]⟩
def F111 : AFun := ⟨2,
 (.seq (.ops [o 4 (.mv (.k (.c (.bool false))))])
 (.seq (.ops [o 5 (.mv (.t 0)),o 6 (.mv (.t 1)),o 7 (.call 155 [(.t 5),(.t 6)]),o 8 (.bin 0 .geq (.t 7) (ki 0)),o 4 (.mv (.t 8))])
 .ret)),
 [.tmp 4]⟩
def F112 : AFun := ⟨4,
 (.seq (.ops [o 6 .rcv,o 4 (.mv (.t 6))])
 (.seq (.ops [o 7 (.mv (.t 4)),o 8 (.bin 4 .neq (.t 7) (.k (.c .nilIface)))])
 (.cond (.t 8) (.seq (.ops [o 9 (.agg [.nilslice] []),o 10 (.agg [(.int .i64 0),(.int .i64 0)] [(0,1,(ki 220))]),e (.st 1 (.t 0) (.t 9)),e (.st 2 (.t 1) (.t 10))])
 (.seq (.dops [.op 0 (o 11 (.ld (.t 2))),.op 4 (o 15 (.ld (.t 3))),.op 1 (o 12 (.nilck (.t 11))),.op 5 (o 16 (.len 1 (.t 15))),.op 2 (o 13 (.fa 1 (.t 12))),.op 3 (o 14 (.ld (.t 13))),.op 6 (o 17 (.bin 0 .lss (.t 14) (.t 16)))])
 (.keep [1,2,3,17] (.cond (.t 17) (.dops [.op 0 (o 18 (.ld (.t 3))),.op 1 (o 19 (.ld (.t 2))),.op 2 (o 20 (.nilck (.t 19))),.op 3 (o 21 (.fa 1 (.t 20))),.op 4 (o 22 (.ld (.t 21))),.op 5 (o 23 (.ixa 5 (.t 18) (.t 22))),.op 6 (o 24 (.fa 3 (.t 23))),.op 7 (o 25 (.ld (.t 24))),.op 8 (o 26 (.fa 1 (.t 1))),.eff 9 (e (.st 1 (.t 26) (.t 25))) []])
 (.seq (.ops [o 27 (.ld (.t 3)),o 28 (.len 1 (.t 27)),o 5 (.mv (.t 28))])
 (.seq (.ops [o 29 (.mv (.t 5)),o 30 (.bin 0 .gtr (.t 29) (ki 0))])
 (.cond (.t 30) (.dops [.op 0 (o 31 (.ld (.t 3))),.op 1 (o 32 (.mv (.t 5))),.op 6 (o 37 (.ld (.t 3))),.op 7 (o 38 (.mv (.t 5))),.op 2 (o 33 (.bin 0 .sub (.t 32) (ki 1))),.op 8 (o 39 (.bin 0 .sub (.t 38) (ki 1))),.op 3 (o 34 (.ixa 5 (.t 31) (.t 33))),.op 9 (o 40 (.ixa 5 (.t 37) (.t 39))),.op 4 (o 35 (.fa 3 (.t 34))),.op 10 (o 41 (.fa 1 (.t 40))),.op 5 (o 36 (.ld (.t 35))),.op 11 (o 42 (.ld (.t 41))),.op 12 (o 43 (.len 0 (.t 42))),.op 13 (o 44 (.bin 0 .add (.t 36) (.t 43))),.op 14 (o 45 (.fa 1 (.t 1))),.eff 15 (e (.st 1 (.t 45) (.t 44))) []])
 .skip)))))))
 .skip))),
 []⟩
def F113 : AFun := ⟨1,
 (.seq (.ops [o 2 (.alloc [.nilslice]),o 3 (.alloc [(.int .i64 0),(.int .i64 0)])])
 (.seq (.ops [o 4 (.alloc [.nilslice])])
 (.seq (.ops [o 7 (.agg [(.int .i64 0),(.int .i64 0)] []),o 5 (.alloc [(.int .i64 0),(.int .i64 0)]),e (.st 2 (.t 5) (.t 7))])
 (.seq (.ops [o 6 (.alloc [.nilfn])])
 (.seq (.ops [o 8 (.mkf 156 [] [(.t 5),(.t 4),(.t 6)]),e (.st 1 (.t 6) (.t 8))])
 (.seq (.ops [o 9 (.ld (.t 6)),o 10 (.mv (.t 0)),o 11 (.callv (.t 9) [(.t 10),(ki 0)])])
 (.seq (.seq (.ops [o 12 (.fa 0 (.t 5)),o 13 (.ld (.t 12)),o 14 (.bin 0 .neq (.t 13) (ki 0))])
 (.keep [2,3,4,5,14] (.cond (.t 14) (.seq (.dops [.op 0 (o 15 (.agg [.nilslice] [])),.op 1 (o 16 (.ldn 2 (.t 5))),.eff 2 (e (.st 1 (.t 2) (.t 15))) [o 16 (.ldn 2 (.t 5))],.eff 3 (e (.st 2 (.t 3) (.t 16))) []])
 .ret)
 .skip)))
 (.seq (.dops [.op 0 (o 17 (.ldn 1 (.t 4))),.op 1 (o 18 (.ldn 2 (.t 5))),.eff 2 (e (.st 1 (.t 2) (.t 17))) [o 18 (.ldn 2 (.t 5))],.eff 3 (e (.st 2 (.t 3) (.t 18))) []])
 .ret)))))))),
 [.celln 2 1,.celln 3 2]⟩
def F114 : AFun := ⟨1,
 (.seq (.ops [o 2 (.mv (.k (.c .nilptr)))])
 (.seq (.ops [o 7 (.agg [(.int .i64 0),(.str (bs [])),(.str (bs [])),(.int .i32 0),.nilslice,(.int .i64 0)] [(0,1,(ki 1))]),o 8 (.agg [(.int .i64 0),(.str (bs [])),(.str (bs [])),(.int .i32 0),.nilslice,(.int .i64 0),.nilslice] [(0,6,(.t 7))]),o 9 (.box (.t 8)),o 3 (.mv (.t 9))])
 (.seq (.block 0 (.loop [0,3] (.seq (.seq (.dops [.op 0 (o 10 (.mv (.t 0))),.op 4 (o 14 (.mv (.t 0))),.op 1 (o 11 (.nilck (.t 10))),.op 5 (o 15 (.nilck (.t 14))),.op 2 (o 12 (.fa 1 (.t 11))),.op 6 (o 16 (.fa 0 (.t 15))),.op 3 (o 13 (.ld (.t 12))),.op 7 (o 17 (.ld (.t 16))),.op 8 (o 18 (.len 1 (.t 17))),.op 9 (o 19 (.bin 0 .lss (.t 13) (.t 18)))])
 (.cond (.t 19) .skip
 (.exit 0)))
 (.block 1 (.seq (.ops [o 20 (.mv (.t 0)),o 21 (.call 157 [(.t 20),(ki 0)]),o 4 (.alloc [(.int .i64 0),(.str (bs [])),(.int .i32 0),(.int .i64 0),(.int .i64 0)]),e (.st 5 (.t 4) (.t 21))])
 (.keep [0,3,4] (.seq (.ops [o 5 (.mv (.k (.c (.str (bs [])))))])
 (.seq (.seq (.ops [o 22 (.fa 0 (.t 4)),o 23 (.ld (.t 22)),o 24 (.bin 0 .eql (.t 23) (ki 1)),o 25 (.mv (.t 24)),⟨(some 26),(.fa 1 (.t 4)),some (25,true)⟩,⟨(some 27),(.ld (.t 26)),some (25,true)⟩,⟨(some 28),(.call 158 [(.t 27)]),some (25,true)⟩,o 29 (.pick (.t 25) (.t 28) (.k (.c (.bool false))))])
 (.cond (.t 29) (.seq (.ops [o 30 (.fa 1 (.t 4)),o 31 (.ld (.t 30)),o 5 (.mv (.t 31))])
 (.keep [0,3,4,5] (.ops [o 32 (.mv (.t 0)),o 33 (.nilck (.t 32)),o 34 (.fa 1 (.t 33)),o 35 (.ld (.t 34)),o 36 (.bin 0 .add (.t 35) (ki 1)),o 37 (.nilck (.t 32)),o 38 (.fa 1 (.t 37)),e (.st 1 (.t 38) (.t 36))])))
 .skip))
 (.seq (.ops [o 39 (.mv (.t 0)),o 40 (.call 159 [(.t 39),(.f 160)]),o 6 (.alloc [(.int .i64 0),(.str (bs [])),(.int .i32 0),(.int .i64 0),(.int .i64 0)]),e (.st 5 (.t 6) (.t 40))])
 (.keep [0,3,4,5,6] (.seq (.ops [o 41 (.mv (.t 5)),o 42 (.bin 0 .eql (.t 41) (.k (.c (.str (bs []))))),o 43 (.mv (.t 42)),⟨(some 44),(.mv (.t 0)),some (43,true)⟩,⟨(some 45),(.call 157 [(.t 44),(ki 0)]),some (43,true)⟩,⟨(some 46),(.call 161 [(.t 45)]),some (43,true)⟩,o 47 (.pick (.t 43) (.t 46) (.k (.c (.bool false)))),o 48 (.mv (.t 47)),⟨(some 49),(.mv (.t 0)),some (48,true)⟩,⟨(some 50),(.call 157 [(.t 49),(ki 1)]),some (48,true)⟩,⟨(some 51),(.mks [(.str (bs []))] 1 [(0,1,(.k (.c (.str (bs [40])))))]),some (48,true)⟩,⟨(some 52),(.call 162 [(.t 50),(.t 51)]),some (48,true)⟩,o 53 (.pick (.t 48) (.t 52) (.k (.c (.bool false))))])
 (.keep [0,3,4,5,6,53] (.cond (.t 53) (.dops [.op 0 (o 54 (.mv (.t 3))),.op 1 (o 55 (.mv (.t 3))),.op 5 (o 59 (.mv (.t 0))),.op 6 (o 60 (.ldn 5 (.t 6))),.op 2 (o 56 (.nilck (.t 55))),.op 3 (o 57 (.fa 6 (.t 56))),.op 4 (o 58 (.ld (.t 57))),.eff 7 (o 61 (.call 163 [(.t 59),(.t 60)])) [o 58 (.ld (.t 57))],.eff 8 (o 62 (.mks [.nilptr] 1 [(0,1,(.t 61))])) [o 58 (.ld (.t 57))],.eff 9 (o 63 (.app 1 8 (.t 58) (.t 62))) [],.op 10 (o 64 (.nilck (.t 54))),.op 11 (o 65 (.fa 6 (.t 64))),.eff 12 (e (.st 1 (.t 65) (.t 63))) []])
 (.dops [.op 0 (o 66 (.mv (.t 3))),.op 1 (o 67 (.mv (.t 3))),.op 5 (o 71 (.mv (.t 0))),.op 6 (o 72 (.ldn 5 (.t 4))),.op 7 (o 73 (.ldn 5 (.t 6))),.op 8 (o 74 (.mv (.t 5))),.op 2 (o 68 (.nilck (.t 67))),.op 3 (o 69 (.fa 6 (.t 68))),.op 4 (o 70 (.ld (.t 69))),.eff 9 (o 75 (.call 164 [(.t 71),(.t 72),(.t 73),(.t 74)])) [o 70 (.ld (.t 69))],.eff 10 (o 76 (.mks [.nilptr] 1 [(0,1,(.t 75))])) [o 70 (.ld (.t 69))],.eff 11 (o 77 (.app 1 8 (.t 70) (.t 76))) [],.op 12 (o 78 (.nilck (.t 66))),.op 13 (o 79 (.fa 6 (.t 78))),.eff 14 (e (.st 1 (.t 79) (.t 77))) []]))))))))))))))
 (.keep [3] (.seq (.ops [o 80 (.mv (.t 3)),o 2 (.mv (.t 80))])
 .ret))))),
 [.tmp 2]⟩
def F115 : AFun := ⟨1,
 (.seq (.ops [o 1 (.box (.t 0)),o 2 (.mv (ki 0)),o 3 (.mv (.k (.c (.bool false))))])
 (.seq (.seq (.ops [o 6 (.fa 0 (.t 1)),o 7 (.ld (.t 6)),o 8 (.len 1 (.t 7)),o 9 (.bin 0 .eql (.t 8) (ki 0)),o 10 (.mv (.t 9)),⟨(some 11),(.fa 0 (.t 1)),some (10,false)⟩,⟨(some 12),(.ld (.t 11)),some (10,false)⟩,⟨(some 13),(.len 1 (.t 12)),some (10,false)⟩,⟨(some 14),(.bin 0 .gtr (.t 13) (ki 4096)),some (10,false)⟩,o 15 (.pick (.t 10) (.k (.c (.bool true))) (.t 14)),o 16 (.mv (.t 15)),⟨(some 17),(.fa 0 (.t 1)),some (16,false)⟩,⟨(some 18),(.ld (.t 17)),some (16,false)⟩,⟨(some 19),(.ixa 6 (.t 18) (ki 0)),some (16,false)⟩,⟨(some 20),(.fa 0 (.t 19)),some (16,false)⟩,⟨(some 21),(.ld (.t 20)),some (16,false)⟩,⟨(some 22),(.bin 0 .neq (.t 21) (ki 1)),some (16,false)⟩,o 23 (.pick (.t 16) (.k (.c (.bool true))) (.t 22))])
 (.keep [1,23] (.cond (.t 23) (.seq (.ops [o 2 (.mv (ki 0)),o 3 (.mv (.k (.c (.bool false))))])
 .ret)
 .skip)))
 (.seq (.ops [o 24 (.fa 0 (.t 1)),o 25 (.ld (.t 24)),o 26 (.agg [.nilslice,(.int .i64 0),(.int .i64 0),(.bool false)] [(0,1,(.t 25))]),o 27 (.box (.t 26)),o 4 (.mv (.t 27))])
 (.seq (.dops [.op 0 (o 28 (.mv (.t 4))),.op 2 (o 30 (.fa 0 (.t 1))),.op 3 (o 31 (.ld (.t 30))),.op 4 (o 32 (.len 1 (.t 31))),.eff 1 (o 29 (.call 165 [(.t 28),(ki 0),(.k (.c (.bool false)))])) [o 31 (.ld (.t 30)),o 32 (.len 1 (.t 31))],.op 5 (o 33 (.bin 0 .eql (.t 29) (.t 32))),.op 6 (o 5 (.mv (.t 33)))])
 (.keep [4,5] (.seq (.ops [o 34 (.mv (.t 4)),o 35 (.nilck (.t 34)),o 36 (.fa 2 (.t 35)),o 37 (.ld (.t 36)),o 38 (.mv (.t 5)),o 2 (.mv (.t 37)),o 3 (.mv (.t 38))])
 .ret)))))),
 [.tmp 2,.tmp 3]⟩
def F116 : AFun := ⟨2,
 (.seq (.ops [o 4 (.mv (.k (.c .nilslice)))])
 (.seq (.seq (.ops [o 9 (.mv (.t 1)),o 10 (.bin 0 .lss (.t 9) (ki 0))])
 (.cond (.t 10) (.ops [o 11 (.mki (.k (.c (.str (bs [99,97,110,110,111,116,32,98,101,32,110,101,103,97,116,105,118,101]))))),e (.pnc (.t 11))])
 .skip))
 (.seq (.ops [o 13 (.mv (.t 0)),o 14 (.len 1 (.t 13)),o 15 (.convi .u64 (.t 14)),o 16 (.mv (.t 1)),o 17 (.convi .u64 (.t 16)),o 18 (.call 166 [(.t 15),(.t 17)]),o 12 (.mv (.t 18)),o 19 (.ext 0 (.t 12)),o 20 (.ext 1 (.t 12)),o 5 (.mv (.t 19)),o 6 (.mv (.t 20))])
 (.keep [0,5,6] (.seq (.seq (.ops [o 21 (.mv (.t 5)),o 22 (.bin 0 .gtr (.t 21) (.k (.c (.int .u64 0)))),o 23 (.mv (.t 22)),⟨(some 24),(.mv (.t 6)),some (23,false)⟩,⟨(some 25),(.bin 0 .gtr (.t 24) (.k (.c (.int .u64 9223372036854775807)))),some (23,false)⟩,o 26 (.pick (.t 23) (.k (.c (.bool true))) (.t 25))])
 (.cond (.t 26) (.ops [o 27 (.mki (.k (.c (.str (bs [116,104,101,32,114,101,115,117,108,116,32,111,102,32,40,108,101,110,40,120,41,32,42,32,99,111,117,110,116,41,32,111,118,101,114,102,108,111,119,115]))))),e (.pnc (.t 27))])
 .skip))
 (.seq (.ops [o 28 (.mv (.t 6)),o 29 (.convi .i64 (.t 28)),o 30 (.mksd [(.int .i64 0)] 8 (.t 29) (.t 29)),o 7 (.mv (.t 30))])
 (.keep [0,7] (.seq (.ops [o 31 (.mv (.t 7)),o 32 (.mv (.t 0)),o 33 (.cpy 1 (.t 31) (.t 32)),o 8 (.mv (.t 33))])
 (.seq (.block 0 (.loop [7,8] (.seq (.seq (.ops [o 34 (.mv (.t 8)),o 35 (.mv (.t 7)),o 36 (.len 1 (.t 35)),o 37 (.bin 0 .lss (.t 34) (.t 36))])
 (.cond (.t 37) .skip
 (.exit 0)))
 (.block 1 (.dops [.op 0 (o 38 (.mv (.t 8))),.op 1 (o 39 (.mv (.t 7))),.op 2 (o 40 (.mv (.t 8))),.op 4 (o 42 (.mv (.t 7))),.op 5 (o 43 (.mv (.t 8))),.op 3 (o 41 (.slc 1 (.t 39) (some (.t 40)) none none)),.op 6 (o 44 (.slc 1 (.t 42) none (some (.t 43)) none)),.eff 7 (o 45 (.cpy 1 (.t 41) (.t 44))) [],.op 8 (o 46 (.bin 0 .add (.t 38) (.t 45))),.eff 9 (o 8 (.mv (.t 46))) []])))))
 (.keep [7] (.seq (.ops [o 47 (.mv (.t 7)),o 4 (.mv (.t 47))])
 .ret))))))))))),
 [.tmp 4]⟩
def F117 : AFun := ⟨1,
 (.seq (.ops [o 2 (.mv (.k (.c .nilslice)))])
 (.seq (.seq (.ops [o 3 (.mv (.t 0)),o 4 (.bin 3 .eql (.t 3) (.k (.c .nilslice)))])
 (.cond (.t 4) (.seq (.ops [o 2 (.mv (.k (.c .nilslice)))])
 .ret)
 .skip))
 (.seq (.ops [o 5 (.mks [(.int .i64 0)] 0 []),o 6 (.mv (.t 0)),o 7 (.app 1 8 (.t 5) (.t 6)),o 2 (.mv (.t 7))])
 .ret))),
 [.tmp 2]⟩
def F118 : AFun := ⟨2,
 (.seq (.ops [o 2 (.box (.t 0)),o 3 (.box (.t 1)),o 4 (.alloc [(.int .i64 0),(.int .i64 0)])])
 (.seq (.ops [o 5 (.ld (.t 2)),o 6 (.mkf 168 [] [(.t 2),(.t 3)]),o 7 (.call 167 [(.t 5),(.t 6)]),e (.st 2 (.t 4) (.t 7))])
 .ret)),
 [.celln 4 2]⟩
def F119 : AFun := ⟨2,
 (.seq (.ops [o 2 (.box (.t 0)),o 3 (.box (.t 1)),o 4 (.mv (.k (.c (.bool false))))])
 (.seq (.ops [o 5 (.mv (.f 170))])
 (.seq (.seq (.ops [o 6 (.fa 1 (.t 2)),o 7 (.ld (.t 6)),o 8 (.fa 1 (.t 3)),o 9 (.ld (.t 8)),o 10 (.bin 0 .neq (.t 7) (.t 9)),o 11 (.mv (.t 10)),⟨(some 12),(.fa 8 (.t 2)),some (11,false)⟩,⟨(some 13),(.ld (.t 12)),some (11,false)⟩,⟨(some 14),(.fa 8 (.t 3)),some (11,false)⟩,⟨(some 15),(.ld (.t 14)),some (11,false)⟩,⟨(some 16),(.bin 0 .neq (.t 13) (.t 15)),some (11,false)⟩,o 17 (.pick (.t 11) (.k (.c (.bool true))) (.t 16)),o 18 (.mv (.t 17)),⟨(some 19),(.fa 0 (.t 2)),some (18,false)⟩,⟨(some 20),(.ldn 1 (.t 19)),some (18,false)⟩,⟨(some 21),(.fa 0 (.t 3)),some (18,false)⟩,⟨(some 22),(.ldn 1 (.t 21)),some (18,false)⟩,⟨(some 23),(.call 171 [(.t 20),(.t 22)]),some (18,false)⟩,⟨(some 24),(.un .not (.t 23)),some (18,false)⟩,o 25 (.pick (.t 18) (.k (.c (.bool true))) (.t 24)),o 26 (.mv (.t 25)),⟨(some 27),(.fa 0 (.t 2)),some (26,false)⟩,⟨(some 28),(.fa 0 (.t 27)),some (26,false)⟩,⟨(some 29),(.ld (.t 28)),some (26,false)⟩,⟨(some 30),(.fa 0 (.t 3)),some (26,false)⟩,⟨(some 31),(.fa 0 (.t 30)),some (26,false)⟩,⟨(some 32),(.ld (.t 31)),some (26,false)⟩,⟨(some 33),(.mv (.t 5)),some (26,false)⟩,⟨(some 34),(.call 172 [(.t 29),(.t 32),(.t 33)]),some (26,false)⟩,⟨(some 35),(.un .not (.t 34)),some (26,false)⟩,o 36 (.pick (.t 26) (.k (.c (.bool true))) (.t 35))])
 (.keep [2,3,36] (.cond (.t 36) (.seq (.ops [o 4 (.mv (.k (.c (.bool false))))])
 .ret)
 .skip)))
 (.seq (.ops [o 37 (.fa 2 (.t 2)),o 38 (.ld (.t 37)),o 39 (.fa 2 (.t 3)),o 40 (.ld (.t 39)),o 41 (.call 173 [(.t 38),(.t 40)]),o 42 (.mv (.t 41)),⟨(some 43),(.fa 3 (.t 2)),some (42,true)⟩,⟨(some 44),(.ld (.t 43)),some (42,true)⟩,⟨(some 45),(.fa 3 (.t 3)),some (42,true)⟩,⟨(some 46),(.ld (.t 45)),some (42,true)⟩,⟨(some 47),(.call 174 [(.t 44),(.t 46)]),some (42,true)⟩,o 48 (.pick (.t 42) (.t 47) (.k (.c (.bool false)))),o 49 (.mv (.t 48)),⟨(some 50),(.fa 4 (.t 2)),some (49,true)⟩,⟨(some 51),(.ld (.t 50)),some (49,true)⟩,⟨(some 52),(.fa 4 (.t 3)),some (49,true)⟩,⟨(some 53),(.ld (.t 52)),some (49,true)⟩,⟨(some 54),(.call 174 [(.t 51),(.t 53)]),some (49,true)⟩,o 55 (.pick (.t 49) (.t 54) (.k (.c (.bool false)))),o 56 (.mv (.t 55)),⟨(some 57),(.fa 5 (.t 2)),some (56,true)⟩,⟨(some 58),(.ld (.t 57)),some (56,true)⟩,⟨(some 59),(.fa 5 (.t 3)),some (56,true)⟩,⟨(some 60),(.ld (.t 59)),some (56,true)⟩,⟨(some 61),(.call 174 [(.t 58),(.t 60)]),some (56,true)⟩,o 62 (.pick (.t 56) (.t 61) (.k (.c (.bool false)))),o 63 (.mv (.t 62)),⟨(some 64),(.fa 6 (.t 2)),some (63,true)⟩,⟨(some 65),(.ld (.t 64)),some (63,true)⟩,⟨(some 66),(.fa 6 (.t 3)),some (63,true)⟩,⟨(some 67),(.ld (.t 66)),some (63,true)⟩,⟨(some 68),(.call 174 [(.t 65),(.t 67)]),some (63,true)⟩,o 69 (.pick (.t 63) (.t 68) (.k (.c (.bool false)))),o 70 (.mv (.t 69)),⟨(some 71),(.fa 7 (.t 2)),some (70,true)⟩,⟨(some 72),(.ld (.t 71)),some (70,true)⟩,⟨(some 73),(.fa 7 (.t 3)),some (70,true)⟩,⟨(some 74),(.ld (.t 73)),some (70,true)⟩,⟨(some 75),(.call 174 [(.t 72),(.t 74)]),some (70,true)⟩,o 76 (.pick (.t 70) (.t 75) (.k (.c (.bool false)))),o 4 (.mv (.t 76))])
 .ret)))),
 [.tmp 4]⟩
def F120 : AFun := ⟨2,
 (.seq (.ops [o 2 (.box (.t 0)),o 4 (.mv (ki 0))])
 (.seq (.seq (.ops [o 15 (.fa 9 (.t 2)),o 16 (.ld (.t 15)),o 17 (.mv (.t 1)),o 18 (.lk false (.c (.int .i64 0)) true (.t 16) (.t 17)),o 14 (.mv (.t 18)),o 19 (.ext 0 (.t 14)),o 20 (.ext 1 (.t 14)),o 5 (.mv (.t 19)),o 6 (.mv (.t 20))])
 (.seq (.ops [o 21 (.mv (.t 6))])
 (.cond (.t 21) (.seq (.ops [o 22 (.mv (.t 5)),o 4 (.mv (.t 22))])
 .ret)
 .skip)))
 (.keep [1,2] (.seq (.ops [o 23 (.fa 0 (.t 2)),o 24 (.fa 0 (.t 23)),o 25 (.fa 0 (.t 24)),o 26 (.ld (.t 25)),o 27 (.mv (.t 1)),o 28 (.ixa 6 (.t 26) (.t 27)),o 29 (.ldn 6 (.t 28)),o 7 (.alloc [(.int .i64 0),(.str (bs [])),(.str (bs [])),(.int .i32 0),.nilslice,(.int .i64 0)]),e (.st 6 (.t 7) (.t 29))])
 (.seq (.ops [o 8 (.alloc [(.int .i64 0)]),e (.st 1 (.t 8) (ki 1))])
 (.seq (.ops [o 30 (.mkf 175 [] [(.t 8)]),o 9 (.mv (.t 30))])
 (.keep [1,2,7,8,9] (.seq (.seq (.ops [o 31 (.fa 0 (.t 7)),o 32 (.ld (.t 31)),o 33 (.bin 0 .eql (.t 32) (ki 8))])
 (.cond (.t 33) (.seq (.ops [o 35 (.fa 0 (.t 2)),o 36 (.fa 0 (.t 35)),o 37 (.ldn 1 (.t 36)),o 38 (.mv (.t 1)),o 39 (.call 124 [(.t 37),(.t 38)]),o 34 (.mv (.t 39)),o 40 (.ext 0 (.t 34)),o 41 (.ext 1 (.t 34)),o 10 (.mv (.t 40)),o 11 (.mv (.t 41))])
 (.keep [1,2,7,8,9,10,11] (.seq (.ops [o 42 (.mv (.t 11)),o 43 (.mv (.t 10)),o 44 (.bin 0 .sub (.t 42) (.t 43)),o 45 (.mx [(.t 44),(ki 0)]),o 46 (.mv (ki 0))])
 (.block 0 (.loop [1,2,7,8,9,45,46] (.seq (.ops [o 47 (.bin 0 .lss (.t 46) (.t 45))])
 (.seq (.cond (.t 47) .skip
 (.exit 0))
 (.seq (.block 1 (.dops [.op 0 (o 48 (.mv (.t 9))),.op 1 (o 49 (.ldn 10 (.t 2))),.op 2 (o 50 (.fa 4 (.t 7))),.op 3 (o 51 (.ld (.t 50))),.op 4 (o 52 (.ixa 1 (.t 51) (ki 2))),.op 5 (o 53 (.ld (.t 52))),.eff 6 (o 54 (.call 120 [(.t 49),(.t 53)])) [],.op 7 (o 55 (.bin 0 .add (ki 1) (.t 54))),.eff 8 (o 56 (.callv (.t 48) [(.t 55)])) []]))
 (.keep [1,2,7,8,9,45,46] (.ops [o 57 (.bin 0 .add (.t 46) (ki 1)),o 46 (.mv (.t 57))]))))))))))
 (.seq (.ops [o 58 (.fa 4 (.t 7)),o 59 (.ld (.t 58)),o 60 (.len 1 (.t 59)),o 61 (.mv (ki 0))])
 (.block 2 (.loop [1,2,7,8,9,59,60,61] (.seq (.ops [o 62 (.bin 0 .lss (.t 61) (.t 60))])
 (.seq (.cond (.t 62) .skip
 (.exit 2))
 (.seq (.block 3 (.seq (.ops [o 63 (.ixa 1 (.t 59) (.t 61)),o 64 (.ld (.t 63)),o 13 (.mv (.t 64))])
 (.ops [o 65 (.mv (.t 9)),o 66 (.ldn 10 (.t 2)),o 67 (.mv (.t 13)),o 68 (.call 120 [(.t 66),(.t 67)]),o 69 (.callv (.t 65) [(.t 68)])])))
 (.keep [1,2,7,8,9,59,60,61] (.ops [o 70 (.bin 0 .add (.t 61) (ki 1)),o 61 (.mv (.t 70))]))))))))))
 (.seq (.seq (.ops [o 71 (.fa 0 (.t 7)),o 72 (.ld (.t 71)),o 73 (.bin 0 .eql (.t 72) (ki 17)),o 74 (.mv (.t 73)),⟨(some 75),(.fa 0 (.t 2)),some (74,true)⟩,⟨(some 76),(.fa 3 (.t 75)),some (74,true)⟩,⟨(some 77),(.ld (.t 76)),some (74,true)⟩,⟨(some 78),(.mv (.t 1)),some (74,true)⟩,⟨(some 79),(.ixa 1 (.t 77) (.t 78)),some (74,true)⟩,⟨(some 80),(.ld (.t 79)),some (74,true)⟩,⟨(some 81),(.bin 0 .geq (.t 80) (ki 0)),some (74,true)⟩,o 82 (.pick (.t 74) (.t 81) (.k (.c (.bool false))))])
 (.keep [1,2,8,9,82] (.cond (.t 82) (.dops [.op 0 (o 83 (.mv (.t 9))),.op 1 (o 84 (.ldn 10 (.t 2))),.op 2 (o 85 (.fa 0 (.t 2))),.op 5 (o 88 (.mv (.t 1))),.op 3 (o 86 (.fa 3 (.t 85))),.op 4 (o 87 (.ld (.t 86))),.op 6 (o 89 (.ixa 1 (.t 87) (.t 88))),.op 7 (o 90 (.ld (.t 89))),.eff 8 (o 91 (.call 120 [(.t 84),(.t 90)])) [],.eff 9 (o 92 (.callv (.t 83) [(.t 91)])) []])
 .skip)))
 (.keep [1,2,8] (.seq (.ops [o 93 (.fa 9 (.t 2)),o 94 (.ld (.t 93)),o 95 (.mv (.t 1)),o 96 (.ld (.t 8)),e (.mup false (.t 94) (.t 95) (.t 96))])
 (.seq (.ops [o 97 (.ld (.t 8)),o 4 (.mv (.t 97))])
 .ret)))))))))))),
 [.tmp 4]⟩
def F121 : AFun := ⟨2,
 (.seq (.ops [o 2 (.box (.t 0)),o 3 (.box (.t 1)),o 4 (.alloc [(.int .i32 0),(.int .i32 0),(.int .i32 0),(.int .i32 0)])])
 (.seq (.seq (.ops [o 6 (.mv (ki 0))])
 (.block 0 (.loop [2,3,4,6] (.seq (.ops [o 7 (.bin 0 .lss (.t 6) (ki 4))])
 (.seq (.cond (.t 7) .skip
 (.exit 0))
 (.seq (.block 1 (.seq (.ops [o 8 (.mv (.t 6)),o 5 (.mv (.t 8))])
 (.seq (.ops [o 9 (.mv (.t 5)),o 10 (.fa 1 (.t 2)),o 11 (.ld (.t 10)),o 12 (.bin 0 .geq (.t 9) (.t 11))])
 (.cond (.t 12) (.ops [o 13 (.mv (.t 5)),o 14 (.ixp 4 1 (.t 3) (.t 13)),e (.st 1 (.t 14) (.k (.c (.int .i32 0))))])
 (.seq (.ops [o 15 (.fa 0 (.t 2)),o 16 (.ld (.t 15)),o 17 (.bin 0 .eql (.t 16) (ki 3))])
 (.cond (.t 17) (.ops [o 18 (.mv (.t 5)),o 19 (.mv (.t 5)),o 20 (.ixp 4 1 (.t 3) (.t 19)),o 21 (.ld (.t 20)),o 22 (.bin 0 .neq (.t 21) (.k (.c (.int .i32 0)))),o 23 (.call 23 [(.t 22)]),o 24 (.ixp 4 1 (.t 3) (.t 18)),e (.st 1 (.t 24) (.t 23))])
 .skip))))))
 (.keep [2,3,4,6] (.ops [o 25 (.bin 0 .add (.t 6) (ki 1)),o 6 (.mv (.t 25))]))))))))
 (.seq (.ops [o 26 (.ldn 4 (.t 3)),e (.st 4 (.t 4) (.t 26))])
 .ret))),
 [.celln 4 4]⟩
def F122 : AFun := ⟨2,
 (.seq (.ops [o 4 (.alloc [(.int .i64 0),(.str (bs [])),(.str (bs [])),(.int .i32 0),.nilslice,(.int .i64 0)])])
 (.seq (.ops [o 5 (.mv (.t 0)),o 6 (.nilck (.t 5)),o 7 (.fa 0 (.t 6)),o 8 (.fa 0 (.t 7)),o 9 (.fa 0 (.t 8)),o 10 (.ld (.t 9)),o 11 (.mv (.t 1)),o 12 (.ixa 6 (.t 10) (.t 11)),o 13 (.ldn 6 (.t 12)),e (.st 6 (.t 4) (.t 13))])
 .ret)),
 [.celln 4 6]⟩
def F123 : AFun := ⟨2,
 (.seq (.ops [o 4 (.alloc [(.int .i32 0),(.int .i32 0),(.int .i32 0),(.int .i32 0)]),o 5 (.mv (.k (.c (.bool false))))])
 (.seq (.ops [o 23 (.mv (.t 0)),o 24 (.mv (.t 1)),o 25 (.call 122 [(.t 23),(.t 24)]),o 6 (.alloc [(.int .i64 0),(.str (bs [])),(.str (bs [])),(.int .i32 0),.nilslice,(.int .i64 0)]),e (.st 6 (.t 6) (.t 25))])
 (.seq (.seq (.ops [o 26 (.fa 0 (.t 6)),o 27 (.ld (.t 26))])
 (.block 0 (.seq (.ops [o 29 (.bin 0 .eql (.t 27) (ki 20)),o 28 (.mv (.t 29))])
 (.cond (.t 28) (.seq (.ops [o 30 (.fa 3 (.t 6)),o 31 (.ld (.t 30)),o 32 (.call 176 [(.t 31)]),o 33 (.convi .i32 (.t 32)),o 34 (.agg [(.int .i32 0),(.int .i32 0),(.int .i32 0),(.int .i32 0)] [(0,1,(.t 33))]),e (.st 4 (.t 4) (.t 34)),o 5 (.mv (.k (.c (.bool true))))])
 .ret)
 (.seq (.ops [o 36 (.bin 0 .eql (.t 27) (ki 21)),o 35 (.mv (.t 36))])
 (.keep [0,1,4,6,27,35] (.cond (.t 35) (.seq (.ops [o 37 (.fa 3 (.t 6)),o 38 (.ld (.t 37)),o 39 (.agg [(.int .i32 0),(.int .i32 0),(.int .i32 0),(.int .i32 0)] [(0,1,(.t 38))]),e (.st 4 (.t 4) (.t 39)),o 5 (.mv (.k (.c (.bool true))))])
 .ret)
 (.seq (.ops [o 41 (.bin 0 .eql (.t 27) (ki 22)),o 40 (.mv (.t 41))])
 (.cond (.t 40) (.seq (.ops [o 42 (.fa 2 (.t 6)),o 43 (.ld (.t 42)),o 44 (.bin 0 .eql (.t 43) (.k (.c (.str (bs [116,114,117,101]))))),o 45 (.call 23 [(.t 44)]),o 46 (.agg [(.int .i32 0),(.int .i32 0),(.int .i32 0),(.int .i32 0)] [(0,1,(.t 45))]),e (.st 4 (.t 4) (.t 46)),o 5 (.mv (.k (.c (.bool true))))])
 .ret)
 (.seq (.ops [o 48 (.bin 0 .eql (.t 27) (ki 19)),o 47 (.mv (.t 48))])
 (.cond (.t 47) (.seq (.dops [.op 0 (o 49 (.mv (.t 0))),.op 4 (o 53 (.mv (.t 0))),.op 9 (o 58 (.mv (.t 1))),.op 1 (o 50 (.nilck (.t 49))),.op 5 (o 54 (.nilck (.t 53))),.op 2 (o 51 (.fa 22 (.t 50))),.op 6 (o 55 (.fa 0 (.t 54))),.op 3 (o 52 (.ld (.t 51))),.op 7 (o 56 (.fa 3 (.t 55))),.op 8 (o 57 (.ld (.t 56))),.op 10 (o 59 (.ixa 1 (.t 57) (.t 58))),.op 11 (o 60 (.ld (.t 59))),.op 12 (o 61 (.lk false (.agg [(.int .i32 0),(.int .i32 0),(.int .i32 0),(.int .i32 0)]) false (.t 52) (.t 60))),.eff 13 (e (.st 4 (.t 4) (.t 61))) [],.op 14 (o 5 (.mv (.k (.c (.bool true)))))])
 .ret)
 (.seq (.ops [o 63 (.bin 0 .eql (.t 27) (ki 17)),o 62 (.mv (.t 63))])
 (.cond (.t 62) (.seq (.ops [o 64 (.mv (.t 0)),o 65 (.mv (.t 1)),o 66 (.call 177 [(.t 64),(.t 65)]),o 67 (.ext 0 (.t 66)),o 68 (.ext 1 (.t 66)),e (.st 4 (.t 4) (.t 67)),o 5 (.mv (.t 68))])
 .ret)
 (.seq (.ops [o 70 (.bin 0 .eql (.t 27) (ki 13)),o 69 (.mv (.t 70))])
 (.cond (.t 69) (.seq (.ops [o 72 (.mv (.t 0)),o 73 (.fa 4 (.t 6)),o 74 (.ld (.t 73)),o 75 (.ixa 1 (.t 74) (ki 1)),o 76 (.ld (.t 75)),o 77 (.call 123 [(.t 72),(.t 76)]),o 71 (.mv (.t 77)),o 78 (.ext 0 (.t 71)),o 79 (.ext 1 (.t 71)),o 7 (.alloc [(.int .i32 0),(.int .i32 0),(.int .i32 0),(.int .i32 0)]),e (.st 4 (.t 7) (.t 78)),o 8 (.mv (.t 79))])
 (.keep [0,4,6,7,8] (.seq (.seq (.ops [o 80 (.mv (.t 8)),o 81 (.un .not (.t 80))])
 (.cond (.t 81) (.seq (.ops [o 82 (.ldn 4 (.t 7)),e (.st 4 (.t 4) (.t 82)),o 5 (.mv (.k (.c (.bool false))))])
 .ret)
 .skip))
 (.seq (.ops [o 84 (.mv (.t 0)),o 85 (.fa 4 (.t 6)),o 86 (.ld (.t 85)),o 87 (.ixa 1 (.t 86) (ki 0)),o 88 (.ld (.t 87)),o 89 (.call 178 [(.t 84),(.t 88)]),o 83 (.mv (.t 89)),o 90 (.ext 0 (.t 83)),o 91 (.ext 1 (.t 83)),o 9 (.mv (.t 90)),o 10 (.mv (.t 91))])
 (.keep [0,4,6,7,9,10] (.seq (.ops [o 92 (.mv (.t 0)),o 93 (.nilck (.t 92)),o 94 (.fa 22 (.t 93)),o 95 (.ld (.t 94)),o 96 (.mv (.t 9)),o 97 (.lk false (.agg [(.int .i32 0),(.int .i32 0),(.int .i32 0),(.int .i32 0)]) false (.t 95) (.t 96)),o 11 (.alloc [(.int .i32 0),(.int .i32 0),(.int .i32 0),(.int .i32 0)]),e (.st 4 (.t 11) (.t 97))])
 (.seq (.seq (.ops [o 98 (.fa 2 (.t 6)),o 99 (.ld (.t 98)),o 100 (.bin 0 .neq (.t 99) (.k (.c (.str (bs [61])))))])
 (.keep [0,4,6,7,9,10,11,100] (.cond (.t 100) (.dops [.op 0 (o 101 (.fa 2 (.t 6))),.op 3 (o 104 (.ldn 4 (.t 11))),.op 4 (o 105 (.mv (.t 10))),.op 6 (o 107 (.ldn 4 (.t 7))),.op 7 (o 108 (.mv (.t 0))),.op 12 (o 113 (.fa 4 (.t 6))),.op 18 (o 119 (.mv (.t 0))),.op 23 (o 124 (.fa 4 (.t 6))),.op 1 (o 102 (.ld (.t 101))),.op 8 (o 109 (.nilck (.t 108))),.op 13 (o 114 (.ld (.t 113))),.op 19 (o 120 (.nilck (.t 119))),.op 24 (o 125 (.ld (.t 124))),.op 2 (o 103 (.slcs (.t 102) none (some (ki 1)))),.op 9 (o 110 (.fa 0 (.t 109))),.op 14 (o 115 (.ixa 1 (.t 114) (ki 0))),.op 20 (o 121 (.fa 0 (.t 120))),.op 25 (o 126 (.ixa 1 (.t 125) (ki 1))),.op 10 (o 111 (.fa 2 (.t 110))),.op 15 (o 116 (.ld (.t 115))),.op 21 (o 122 (.fa 2 (.t 121))),.op 26 (o 127 (.ld (.t 126))),.op 11 (o 112 (.ld (.t 111))),.op 22 (o 123 (.ld (.t 122))),.op 16 (o 117 (.ixa 2 (.t 112) (.t 116))),.op 27 (o 128 (.ixa 2 (.t 123) (.t 127))),.op 17 (o 118 (.ldn 2 (.t 117))),.op 28 (o 129 (.ldn 2 (.t 128))),.eff 5 (o 106 (.call 180 [(.t 104),(.t 105)])) [o 107 (.ldn 4 (.t 7)),o 102 (.ld (.t 101)),o 114 (.ld (.t 113)),o 125 (.ld (.t 124)),o 116 (.ld (.t 115)),o 127 (.ld (.t 126)),o 112 (.ld (.t 111)),o 123 (.ld (.t 122)),o 118 (.ldn 2 (.t 117)),o 129 (.ldn 2 (.t 128))],.eff 29 (o 130 (.call 179 [(.t 103),(.t 106),(.t 107),(.t 118),(.t 129)])) [],.eff 30 (e (.st 4 (.t 7) (.t 130))) []])
 .skip)))
 (.keep [0,4,7,9,10,11] (.seq (.seq (.ops [o 131 (.mv (.t 10)),o 132 (.len 1 (.t 131)),o 133 (.mv (ki 0))])
 (.block 1 (.loop [0,4,7,9,11,131,132,133] (.seq (.ops [o 134 (.bin 0 .lss (.t 133) (.t 132))])
 (.seq (.cond (.t 134) .skip
 (.exit 1))
 (.seq (.block 2 (.seq (.ops [o 135 (.mv (.t 133)),o 136 (.ixa 1 (.t 131) (.t 133)),o 137 (.ld (.t 136)),o 12 (.mv (.t 135)),o 13 (.mv (.t 137))])
 (.ops [o 138 (.mv (.t 13)),o 139 (.mv (.t 12)),o 140 (.ixp 4 1 (.t 7) (.t 139)),o 141 (.ld (.t 140)),o 142 (.ixp 4 1 (.t 11) (.t 138)),e (.st 1 (.t 142) (.t 141))])))
 (.keep [0,4,7,9,11,131,132,133] (.ops [o 143 (.bin 0 .add (.t 133) (ki 1)),o 133 (.mv (.t 143))]))))))))
 (.seq (.dops [.op 0 (o 144 (.mv (.t 0))),.op 4 (o 148 (.mv (.t 9))),.op 5 (o 149 (.ldn 4 (.t 11))),.op 1 (o 145 (.nilck (.t 144))),.op 2 (o 146 (.fa 22 (.t 145))),.op 3 (o 147 (.ld (.t 146))),.eff 6 (e (.mup false (.t 147) (.t 148) (.t 149))) []])
 (.keep [4,7] (.seq (.ops [o 150 (.ldn 4 (.t 7)),e (.st 4 (.t 4) (.t 150)),o 5 (.mv (.k (.c (.bool true))))])
 .ret))))))))))))
 .skip)))))))))))))))
 (.keep [0,1,4,6] (.seq (.ops [o 152 (.mv (.t 0)),o 153 (.fa 4 (.t 6)),o 154 (.ld (.t 153)),o 155 (.ixa 1 (.t 154) (ki 0)),o 156 (.ld (.t 155)),o 157 (.call 123 [(.t 152),(.t 156)]),o 151 (.mv (.t 157)),o 158 (.ext 0 (.t 151)),o 159 (.ext 1 (.t 151)),o 14 (.alloc [(.int .i32 0),(.int .i32 0),(.int .i32 0),(.int .i32 0)]),e (.st 4 (.t 14) (.t 158)),o 15 (.mv (.t 159))])
 (.keep [0,1,4,6,14,15] (.seq (.seq (.ops [o 160 (.mv (.t 15)),o 161 (.un .not (.t 160))])
 (.cond (.t 161) (.seq (.ops [o 162 (.ldn 4 (.t 14)),e (.st 4 (.t 4) (.t 162)),o 5 (.mv (.k (.c (.bool false))))])
 .ret)
 .skip))
 (.seq (.seq (.ops [o 163 (.fa 0 (.t 6)),o 164 (.ld (.t 163))])
 (.block 3 (.seq (.ops [o 166 (.bin 0 .eql (.t 164) (ki 18)),o 165 (.mv (.t 166))])
 (.keep [0,1,4,6,14,164,165] (.cond (.t 165) (.seq (.dops [.op 0 (o 168 (.mv (.t 0))),.op 5 (o 173 (.fa 4 (.t 6))),.op 11 (o 179 (.fa 2 (.t 6))),.flt 18 (o 16 (.alloc [(.int .i64 0),(.int .i64 0)])) [],.op 1 (o 169 (.nilck (.t 168))),.op 6 (o 174 (.ld (.t 173))),.op 12 (o 180 (.ld (.t 179))),.op 2 (o 170 (.fa 0 (.t 169))),.op 7 (o 175 (.ixa 1 (.t 174) (ki 0))),.op 3 (o 171 (.fa 2 (.t 170))),.op 8 (o 176 (.ld (.t 175))),.op 4 (o 172 (.ld (.t 171))),.op 9 (o 177 (.ixa 2 (.t 172) (.t 176))),.op 10 (o 178 (.ldn 2 (.t 177))),.eff 13 (o 181 (.call 181 [(.t 178),(.t 180)])) [o 16 (.alloc [(.int .i64 0),(.int .i64 0)])],.op 14 (o 167 (.mv (.t 181))),.op 15 (o 182 (.ext 0 (.t 167))),.op 16 (o 183 (.ext 1 (.t 167))),.op 17 (o 184 (.ext 2 (.t 167))),.eff 19 (e (.st 2 (.t 16) (.t 182))) [],.op 20 (o 17 (.mv (.t 183))),.op 21 (o 18 (.mv (.t 184)))])
 (.keep [4,14,17] (.seq (.ops [o 185 (.ldn 4 (.t 14)),o 186 (.mv (.t 17)),o 187 (.call 180 [(.t 185),(.t 186)]),e (.st 4 (.t 4) (.t 187)),o 5 (.mv (.k (.c (.bool true))))])
 .ret)))
 (.seq (.ops [o 189 (.bin 0 .eql (.t 164) (ki 16)),o 188 (.mv (.t 189))])
 (.cond (.t 188) (.seq (.ops [o 19 (.mv (ki 28))])
 (.seq (.seq (.ops [o 190 (.fa 2 (.t 6)),o 191 (.ld (.t 190)),o 192 (.bin 0 .eql (.t 191) (.k (.c (.str (bs [33])))))])
 (.cond (.t 192) (.ops [o 19 (.mv (ki 35))])
 .skip))
 (.seq (.dops [.op 0 (o 194 (.mv (.t 19))),.op 1 (o 195 (.mv (.t 0))),.op 6 (o 200 (.mv (.t 1))),.op 10 (o 204 (.mv (.t 0))),.op 15 (o 209 (.mv (.t 1))),.op 19 (o 213 (.ldn 4 (.t 14))),.flt 25 (o 20 (.alloc [(.int .i32 0),(.int .i32 0),(.int .i32 0),(.int .i32 0)])) [o 213 (.ldn 4 (.t 14))],.op 2 (o 196 (.nilck (.t 195))),.op 11 (o 205 (.nilck (.t 204))),.flt 20 (o 214 (.mks [(.int .i32 0),(.int .i32 0),(.int .i32 0),(.int .i32 0)] 1 [(0,4,(.t 213))])) [o 213 (.ldn 4 (.t 14))],.op 3 (o 197 (.fa 0 (.t 196))),.op 12 (o 206 (.fa 0 (.t 205))),.op 4 (o 198 (.fa 2 (.t 197))),.op 13 (o 207 (.fa 2 (.t 206))),.op 5 (o 199 (.ld (.t 198))),.op 14 (o 208 (.ld (.t 207))),.op 7 (o 201 (.ixa 2 (.t 199) (.t 200))),.op 16 (o 210 (.ixa 2 (.t 208) (.t 209))),.op 8 (o 202 (.fa 0 (.t 201))),.op 17 (o 211 (.fa 1 (.t 210))),.op 9 (o 203 (.ld (.t 202))),.op 18 (o 212 (.ld (.t 211))),.eff 21 (o 215 (.call 11 [(.t 194),(.t 203),(.t 212),(.t 214)])) [o 20 (.alloc [(.int .i32 0),(.int .i32 0),(.int .i32 0),(.int .i32 0)])],.op 22 (o 193 (.mv (.t 215))),.op 23 (o 216 (.ext 0 (.t 193))),.op 24 (o 217 (.ext 1 (.t 193))),.eff 26 (e (.st 4 (.t 20) (.t 216))) [],.op 27 (o 21 (.mv (.t 217)))])
 (.keep [4,20] (.seq (.ops [o 218 (.ldn 4 (.t 20)),e (.st 4 (.t 4) (.t 218)),o 5 (.mv (.k (.c (.bool true))))])
 .ret)))))
 (.seq (.ops [o 220 (.bin 0 .eql (.t 164) (ki 14)),o 219 (.mv (.t 220))])
 (.cond (.t 219) (.seq (.seq (.ops [o 221 (.ixp 4 1 (.t 14) (ki 0)),o 222 (.ld (.t 221)),o 223 (.bin 0 .eql (.t 222) (.k (.c (.int .i32 1))))])
 (.cond (.t 223) (.seq (.ops [o 224 (.mv (.t 0)),o 225 (.fa 4 (.t 6)),o 226 (.ld (.t 225)),o 227 (.ixa 1 (.t 226) (ki 1)),o 228 (.ld (.t 227)),o 229 (.call 123 [(.t 224),(.t 228)]),o 230 (.ext 0 (.t 229)),o 231 (.ext 1 (.t 229)),e (.st 4 (.t 4) (.t 230)),o 5 (.mv (.t 231))])
 .ret)
 .skip))
 (.keep [0,4,6] (.seq (.ops [o 232 (.mv (.t 0)),o 233 (.fa 4 (.t 6)),o 234 (.ld (.t 233)),o 235 (.ixa 1 (.t 234) (ki 2)),o 236 (.ld (.t 235)),o 237 (.call 123 [(.t 232),(.t 236)]),o 238 (.ext 0 (.t 237)),o 239 (.ext 1 (.t 237)),e (.st 4 (.t 4) (.t 238)),o 5 (.mv (.t 239))])
 .ret)))
 .skip)))))))))
 (.seq (.seq (.ops [o 240 (.fa 2 (.t 6)),o 241 (.ld (.t 240)),o 242 (.bin 0 .eql (.t 241) (.k (.c (.str (bs [38,38]))))),o 243 (.mv (.t 242)),⟨(some 244),(.ixp 4 1 (.t 14) (ki 0)),some (243,true)⟩,⟨(some 245),(.ld (.t 244)),some (243,true)⟩,⟨(some 246),(.bin 0 .eql (.t 245) (.k (.c (.int .i32 0)))),some (243,true)⟩,o 247 (.pick (.t 243) (.t 246) (.k (.c (.bool false)))),o 248 (.mv (.t 247)),⟨(some 249),(.fa 2 (.t 6)),some (248,false)⟩,⟨(some 250),(.ld (.t 249)),some (248,false)⟩,⟨(some 251),(.bin 0 .eql (.t 250) (.k (.c (.str (bs [124,124]))))),some (248,false)⟩,⟨(some 252),(.mv (.t 251)),some (248,false)⟩,⟨(some 253),(.ixp 4 1 (.t 14) (ki 0)),some (252,true)⟩,⟨(some 254),(.ld (.t 253)),some (252,true)⟩,⟨(some 255),(.bin 0 .eql (.t 254) (.k (.c (.int .i32 1)))),some (252,true)⟩,⟨(some 256),(.pick (.t 252) (.t 255) (.k (.c (.bool false)))),some (248,false)⟩,o 257 (.pick (.t 248) (.k (.c (.bool true))) (.t 256))])
 (.keep [0,4,6,14,257] (.cond (.t 257) (.seq (.ops [o 258 (.ldn 4 (.t 14)),e (.st 4 (.t 4) (.t 258)),o 5 (.mv (.k (.c (.bool true))))])
 .ret)
 .skip)))
 (.seq (.ops [o 260 (.mv (.t 0)),o 261 (.fa 4 (.t 6)),o 262 (.ld (.t 261)),o 263 (.ixa 1 (.t 262) (ki 1)),o 264 (.ld (.t 263)),o 265 (.call 123 [(.t 260),(.t 264)]),o 259 (.mv (.t 265)),o 266 (.ext 0 (.t 259)),o 267 (.ext 1 (.t 259)),o 22 (.alloc [(.int .i32 0),(.int .i32 0),(.int .i32 0),(.int .i32 0)]),e (.st 4 (.t 22) (.t 266)),o 15 (.mv (.t 267))])
 (.keep [0,4,6,14,15,22] (.seq (.seq (.ops [o 268 (.mv (.t 15)),o 269 (.un .not (.t 268)),o 270 (.mv (.t 269)),⟨(some 271),(.fa 2 (.t 6)),some (270,false)⟩,⟨(some 272),(.ld (.t 271)),some (270,false)⟩,⟨(some 273),(.bin 0 .eql (.t 272) (.k (.c (.str (bs [38,38]))))),some (270,false)⟩,o 274 (.pick (.t 270) (.k (.c (.bool true))) (.t 273)),o 275 (.mv (.t 274)),⟨(some 276),(.fa 2 (.t 6)),some (275,false)⟩,⟨(some 277),(.ld (.t 276)),some (275,false)⟩,⟨(some 278),(.bin 0 .eql (.t 277) (.k (.c (.str (bs [124,124]))))),some (275,false)⟩,o 279 (.pick (.t 275) (.k (.c (.bool true))) (.t 278))])
 (.keep [0,4,6,14,15,22,279] (.cond (.t 279) (.seq (.ops [o 280 (.ldn 4 (.t 22)),o 281 (.mv (.t 15)),e (.st 4 (.t 4) (.t 280)),o 5 (.mv (.t 281))])
 .ret)
 .skip)))
 (.seq (.dops [.op 0 (o 282 (.fa 2 (.t 6))),.op 2 (o 284 (.ldn 4 (.t 14))),.op 3 (o 285 (.ldn 4 (.t 22))),.op 4 (o 286 (.mv (.t 0))),.op 9 (o 291 (.fa 4 (.t 6))),.op 15 (o 297 (.mv (.t 0))),.op 20 (o 302 (.fa 4 (.t 6))),.op 1 (o 283 (.ld (.t 282))),.op 5 (o 287 (.nilck (.t 286))),.op 10 (o 292 (.ld (.t 291))),.op 16 (o 298 (.nilck (.t 297))),.op 21 (o 303 (.ld (.t 302))),.op 6 (o 288 (.fa 0 (.t 287))),.op 11 (o 293 (.ixa 1 (.t 292) (ki 0))),.op 17 (o 299 (.fa 0 (.t 298))),.op 22 (o 304 (.ixa 1 (.t 303) (ki 1))),.op 7 (o 289 (.fa 2 (.t 288))),.op 12 (o 294 (.ld (.t 293))),.op 18 (o 300 (.fa 2 (.t 299))),.op 23 (o 305 (.ld (.t 304))),.op 8 (o 290 (.ld (.t 289))),.op 19 (o 301 (.ld (.t 300))),.op 13 (o 295 (.ixa 2 (.t 290) (.t 294))),.op 24 (o 306 (.ixa 2 (.t 301) (.t 305))),.op 14 (o 296 (.ldn 2 (.t 295))),.op 25 (o 307 (.ldn 2 (.t 306))),.eff 26 (o 308 (.call 179 [(.t 283),(.t 284),(.t 285),(.t 296),(.t 307)])) [],.eff 27 (e (.st 4 (.t 4) (.t 308))) [],.op 28 (o 5 (.mv (.k (.c (.bool true)))))])
 .ret))))))))))))),
 [.celln 4 4,.tmp 5]⟩
def F124 : AFun := ⟨2,
 (.seq (.ops [o 2 (.box (.t 0)),o 4 (.mv (ki 0)),o 5 (.mv (ki 0))])
 (.seq (.ops [o 7 (.fa 0 (.t 2)),o 8 (.ld (.t 7)),o 9 (.mv (.t 1)),o 10 (.ixa 6 (.t 8) (.t 9)),o 11 (.fa 4 (.t 10)),o 12 (.ld (.t 11)),o 6 (.mv (.t 12))])
 (.seq (.dops [.op 0 (o 13 (.fa 0 (.t 2))),.op 2 (o 15 (.mv (.t 6))),.op 9 (o 22 (.fa 0 (.t 2))),.op 11 (o 24 (.mv (.t 6))),.op 1 (o 14 (.ld (.t 13))),.op 3 (o 16 (.ixa 1 (.t 15) (ki 0))),.op 10 (o 23 (.ld (.t 22))),.op 12 (o 25 (.ixa 1 (.t 24) (ki 1))),.op 4 (o 17 (.ld (.t 16))),.op 13 (o 26 (.ld (.t 25))),.op 5 (o 18 (.ixa 6 (.t 14) (.t 17))),.op 14 (o 27 (.ixa 6 (.t 23) (.t 26))),.op 6 (o 19 (.fa 3 (.t 18))),.op 15 (o 28 (.fa 3 (.t 27))),.op 7 (o 20 (.ld (.t 19))),.op 16 (o 29 (.ld (.t 28))),.eff 8 (o 21 (.call 176 [(.t 20)])) [o 23 (.ld (.t 22)),o 26 (.ld (.t 25)),o 29 (.ld (.t 28))],.eff 17 (o 30 (.call 176 [(.t 29)])) [],.op 18 (o 4 (.mv (.t 21))),.op 19 (o 5 (.mv (.t 30)))])
 .ret))),
 [.tmp 4,.tmp 5]⟩
def F125 : AFun := ⟨2,
 (.seq (.ops [o 4 (.mv (.k (.c (.int .i32 0))))])
 (.seq (.ops [o 5 (.mv (.t 0)),o 6 (.mv (.t 1)),o 7 (.mv (.t 0)),o 8 (.mv (.t 1)),o 9 (.call 79 [(.t 7),(.t 8)]),o 10 (.call 129 [(.t 9)]),o 11 (.call 72 [(.t 6),(.t 10)]),o 12 (.call 76 [(.t 5),(.t 11)]),o 4 (.mv (.t 12))])
 .ret)),
 [.tmp 4]⟩
def F126 : AFun := ⟨1,
 (.seq (.ops [o 2 (.mv (.k (.c (.int .i32 0))))])
 (.seq (.ops [o 3 (.mv (.t 0)),o 4 (.convi .i64 (.t 3)),o 5 (.un .neg (.t 4)),o 6 (.call 82 [(.t 5)]),o 2 (.mv (.t 6))])
 .ret)),
 [.tmp 2]⟩
def F127 : AFun := ⟨1,
 (.seq (.ops [o 2 (.mv (.k (.c (.int .i32 0))))])
 (.seq (.ops [o 3 (.mv (.t 0)),o 4 (.mv (.t 0)),o 5 (.call 126 [(.t 4)]),o 6 (.call 182 [(.t 3),(.t 5)]),o 2 (.mv (.t 6))])
 .ret)),
 [.tmp 2]⟩
def F128 : AFun := ⟨1,
 (.seq (.ops [o 2 (.mv (.k (.c (.int .i32 0))))])
 (.seq (.block 0 (.seq (.ops [o 4 (.mv (.t 0)),o 5 (.bin 0 .gtr (.t 4) (.k (.c (.int .i32 0)))),o 3 (.mv (.t 5))])
 (.cond (.t 3) (.seq (.ops [o 2 (.mv (.k (.c (.int .i32 65536))))])
 .ret)
 (.seq (.ops [o 7 (.mv (.t 0)),o 8 (.bin 0 .lss (.t 7) (.k (.c (.int .i32 0)))),o 6 (.mv (.t 8))])
 (.cond (.t 6) (.seq (.ops [o 2 (.mv (.k (.c (.int .i32 (-65536)))))])
 .ret)
 .skip)))))
 (.seq (.ops [o 2 (.mv (.k (.c (.int .i32 0))))])
 .ret))),
 [.tmp 2]⟩
def F129 : AFun := ⟨1,
 (.seq (.ops [o 2 (.mv (.k (.c (.int .i32 0))))])
 (.seq (.ops [o 3 (.mv (.t 0)),o 4 (.bin 0 .shr (.t 3) (.k (.c (.int .u64 16)))),o 5 (.bin 0 .shl (.t 4) (.k (.c (.int .u64 16)))),o 2 (.mv (.t 5))])
 .ret)),
 [.tmp 2]⟩
def F130 : AFun := ⟨1,
 (.seq (.ops [o 2 (.mv (.k (.c (.int .i32 0))))])
 (.seq (.ops [o 3 (.mv (.t 0)),o 4 (.bin 0 .and (.t 3) (.k (.c (.int .i32 65535)))),o 2 (.mv (.t 4))])
 .ret)),
 [.tmp 2]⟩
def F131 : AFun := ⟨0,
 (.seq (.ops [o 0 (.alloc [(.int .i64 0),(.int .i64 0),(.int .i64 0),(.int .i64 0),(.int .i64 0),(.int .i64 0),(.int .i64 0),(.int .i64 0),(.int .i64 0),(.int .i64 0),(.int .i64 0),(.int .i64 0),(.int .i64 0),(.int .i64 0),(.int .i64 0),(.int .i64 0)])])
 (.seq (.ops [o 1 (.agg [(.int .i64 0),(.int .i64 0),(.int .i64 0),(.int .i64 0),(.int .i64 0),(.int .i64 0),(.int .i64 0),(.int .i64 0),(.int .i64 0),(.int .i64 0),(.int .i64 0),(.int .i64 0),(.int .i64 0),(.int .i64 0),(.int .i64 0),(.int .i64 0)] [(0,1,(ki 1518500250)),(1,1,(ki 1276901417)),(2,1,(ki 1170923762)),(3,1,(ki 1121280436)),(4,1,(ki 1097253708)),(5,1,(ki 1085434106)),(6,1,(ki 1079572136)),(7,1,(ki 1076653033)),(8,1,(ki 1075196443)),(9,1,(ki 1074468888)),(10,1,(ki 1074105294)),(11,1,(ki 1073923544)),(12,1,(ki 1073832680)),(13,1,(ki 1073787251)),(14,1,(ki 1073764537)),(15,1,(ki 1073753181))]),e (.st 16 (.t 0) (.t 1))])
 .ret)),
 [.celln 0 16]⟩
def F132 : AFun := ⟨1,
 (.seq (.ops [o 2 (.mv (ki 0))])
 (.seq (.seq (.ops [o 3 (.mv (.t 0)),o 4 (.bin 0 .geq (.t 3) (.k (.c (.int .u32 65536))))])
 (.cond (.t 4) (.seq (.ops [o 5 (.mv (.t 0)),o 6 (.bin 0 .shr (.t 5) (.k (.c (.int .u64 16)))),o 0 (.mv (.t 6))])
 (.ops [o 2 (.mv (ki 16))]))
 .skip))
 (.seq (.seq (.ops [o 7 (.mv (.t 0)),o 8 (.bin 0 .geq (.t 7) (.k (.c (.int .u32 256))))])
 (.cond (.t 8) (.seq (.ops [o 9 (.mv (.t 0)),o 10 (.bin 0 .shr (.t 9) (.k (.c (.int .u64 8)))),o 0 (.mv (.t 10))])
 (.ops [o 11 (.mv (.t 2)),o 12 (.bin 0 .add (.t 11) (ki 8)),o 2 (.mv (.t 12))]))
 .skip))
 (.keep [0,2] (.seq (.ops [o 13 (.mv (.t 2)),o 14 (.mv (.t 0)),o 15 (.convi .u8 (.t 14)),o 16 (.ixs (.k (.c (.str (bs [0,1,2,2,3,3,3,3,4,4,4,4,4,4,4,4,5,5,5,5,5,5,5,5,5,5,5,5,5,5,5,5,6,6,6,6,6,6,6,6,6,6,6,6,6,6,6,6,6,6,6,6,6,6,6,6,6,6,6,6,6,6,6,6,7,7,7,7,7,7,7,7,7,7,7,7,7,7,7,7,7,7,7,7,7,7,7,7,7,7,7,7,7,7,7,7,7,7,7,7,7,7,7,7,7,7,7,7,7,7,7,7,7,7,7,7,7,7,7,7,7,7,7,7,7,7,7,7,8,8,8,8,8,8,8,8,8,8,8,8,8,8,8,8,8,8,8,8,8,8,8,8,8,8,8,8,8,8,8,8,8,8,8,8,8,8,8,8,8,8,8,8,8,8,8,8,8,8,8,8,8,8,8,8,8,8,8,8,8,8,8,8,8,8,8,8,8,8,8,8,8,8,8,8,8,8,8,8,8,8,8,8,8,8,8,8,8,8,8,8,8,8,8,8,8,8,8,8,8,8,8,8,8,8,8,8,8,8,8,8,8,8,8,8,8,8,8,8,8,8,8,8,8,8,8,8])))) (.t 15)),o 17 (.convi .i64 (.t 16)),o 18 (.bin 0 .add (.t 13) (.t 17)),o 2 (.mv (.t 18))])
 .ret))))),
 [.tmp 2]⟩
def F133 : AFun := ⟨3,
 (.seq (.ops [o 6 (.mv (ki 0))])
 (.seq (.ops [o 7 (.mv (.t 0)),o 8 (.mv (.t 1)),o 9 (.mx [(.t 7),(.t 8)]),o 10 (.mv (.t 2)),o 11 (.mn [(.t 9),(.t 10)]),o 6 (.mv (.t 11))])
 .ret)),
 [.tmp 6]⟩
def F134 : AFun := ⟨1,
 (.seq (.ops [o 2 (.mv (.k (.c (.int .i32 0))))])
 (.seq (.ops [o 10 (.mv (.t 0)),o 11 (.bin 0 .shr (.t 10) (.k (.c (.int .u64 30)))),o 12 (.mv (.t 0)),o 13 (.bin 0 .and (.t 12) (.k (.c (.int .u32 1073741823)))),o 14 (.convi .i64 (.t 13)),o 3 (.mv (.t 11)),o 4 (.mv (.t 14))])
 (.seq (.seq (.ops [o 15 (.mv (.t 3)),o 16 (.bin 0 .and (.t 15) (.k (.c (.int .u32 1)))),o 17 (.bin 0 .eql (.t 16) (.k (.c (.int .u32 1))))])
 (.cond (.t 17) (.ops [o 18 (.mv (.t 4)),o 19 (.bin 0 .sub (ki 1073741824) (.t 18)),o 4 (.mv (.t 19))])
 .skip))
 (.keep [3,4] (.seq (.ops [o 20 (.mv (.t 4)),o 21 (.mv (.t 4)),o 22 (.bin 0 .mul (.t 20) (.t 21)),o 23 (.bin 0 .shr (.t 22) (.k (.c (.int .u64 30)))),o 5 (.mv (.t 23))])
 (.seq (.ops [o 6 (.mv (ki 172272))])
 (.seq (.seq (.ops [o 24 (.agg [(.int .i64 0),(.int .i64 0),(.int .i64 0),(.int .i64 0)] [(0,1,(ki 5026995)),(1,1,(ki 85569306)),(2,1,(ki 693598668)),(3,1,(ki 1686629713))]),o 25 (.mv (ki 0))])
 (.block 0 (.loop [3,4,5,6,24,25] (.seq (.ops [o 26 (.bin 0 .lss (.t 25) (ki 4))])
 (.seq (.cond (.t 26) .skip
 (.exit 0))
 (.seq (.block 1 (.seq (.ops [o 27 (.ixv 4 none (.t 24) (.t 25)),o 8 (.mv (.t 27))])
 (.ops [o 28 (.mv (.t 8)),o 29 (.mv (.t 6)),o 30 (.mv (.t 5)),o 31 (.bin 0 .mul (.t 29) (.t 30)),o 32 (.bin 0 .shr (.t 31) (.k (.c (.int .u64 30)))),o 33 (.bin 0 .sub (.t 28) (.t 32)),o 6 (.mv (.t 33))])))
 (.keep [3,4,5,6,24,25] (.ops [o 34 (.bin 0 .add (.t 25) (ki 1)),o 25 (.mv (.t 34))]))))))))
 (.seq (.ops [o 35 (.mv (.t 6)),o 36 (.mv (.t 4)),o 37 (.bin 0 .mul (.t 35) (.t 36)),o 38 (.bin 0 .shr (.t 37) (.k (.c (.int .u64 30)))),o 39 (.bin 0 .add (.t 38) (ki 8192)),o 40 (.bin 0 .shr (.t 39) (.k (.c (.int .u64 14)))),o 41 (.mn [(.t 40),(ki 65536)]),o 9 (.mv (.t 41))])
 (.keep [3,9] (.seq (.seq (.ops [o 42 (.mv (.t 3)),o 43 (.bin 0 .gtr (.t 42) (.k (.c (.int .u32 1))))])
 (.cond (.t 43) (.ops [o 44 (.mv (.t 9)),o 45 (.un .neg (.t 44)),o 9 (.mv (.t 45))])
 .skip))
 (.seq (.ops [o 46 (.mv (.t 9)),o 47 (.convi .i32 (.t 46)),o 2 (.mv (.t 47))])
 .ret))))))))))),
 [.tmp 2]⟩
def F135 : AFun := ⟨1,
 (.seq (.ops [o 2 (.mv (.k (.c (.int .u32 0))))])
 (.seq (.ops [o 3 (.mv (.t 0)),o 4 (.convi .i64 (.t 3)),o 5 (.bin 0 .mul (.t 4) (ki 683565276)),o 6 (.bin 0 .shr (.t 5) (.k (.c (.int .u64 16)))),o 7 (.convi .u32 (.t 6)),o 2 (.mv (.t 7))])
 .ret)),
 [.tmp 2]⟩
def F136 : AFun := ⟨2,
 (.seq (.ops [o 4 (.mv (ki 0))])
 (.seq (.ops [o 6 (.mv (.t 0)),o 7 (.mv (.t 1)),o 8 (.bin 0 .quo (.t 6) (.t 7)),o 5 (.mv (.t 8))])
 (.seq (.seq (.ops [o 9 (.mv (.t 0)),o 10 (.mv (.t 1)),o 11 (.bin 0 .rem (.t 9) (.t 10)),o 12 (.bin 0 .lss (.t 11) (ki 0))])
 (.cond (.t 12) (.ops [o 13 (.mv (.t 5)),o 14 (.bin 0 .sub (.t 13) (ki 1)),o 5 (.mv (.t 14))])
 .skip))
 (.seq (.ops [o 15 (.mv (.t 5)),o 4 (.mv (.t 15))])
 .ret)))),
 [.tmp 4]⟩
def F137 : AFun := ⟨2,
 (.seq (.ops [o 4 (.mv (ki 0))])
 (.seq (.ops [o 7 (.mv (.t 1)),o 8 (.bin 0 .shl (ki 1) (.t 7)),o 5 (.mv (.t 8))])
 (.seq (.ops [o 9 (.mv (.t 0)),o 10 (.mv (.t 5)),o 11 (.bin 0 .quo (.t 9) (.t 10)),o 6 (.mv (.t 11))])
 (.seq (.seq (.ops [o 12 (.mv (.t 0)),o 13 (.mv (.t 5)),o 14 (.bin 0 .rem (.t 12) (.t 13)),o 15 (.bin 0 .lss (.t 14) (ki 0))])
 (.cond (.t 15) (.ops [o 16 (.mv (.t 6)),o 17 (.bin 0 .sub (.t 16) (ki 1)),o 6 (.mv (.t 17))])
 .skip))
 (.keep [6] (.seq (.ops [o 18 (.mv (.t 6)),o 4 (.mv (.t 18))])
 .ret)))))),
 [.tmp 4]⟩
def F138 : AFun := ⟨0,
 (.seq (.ops [o 0 (.alloc [(.int .i64 0),(.int .i64 0),(.int .i64 0),(.int .i64 0),(.int .i64 0),(.int .i64 0),(.int .i64 0),(.int .i64 0),(.int .i64 0),(.int .i64 0),(.int .i64 0),(.int .i64 0),(.int .i64 0),(.int .i64 0),(.int .i64 0),(.int .i64 0)])])
 (.seq (.ops [o 1 (.agg [(.int .i64 0),(.int .i64 0),(.int .i64 0),(.int .i64 0),(.int .i64 0),(.int .i64 0),(.int .i64 0),(.int .i64 0),(.int .i64 0),(.int .i64 0),(.int .i64 0),(.int .i64 0),(.int .i64 0),(.int .i64 0),(.int .i64 0),(.int .i64 0)] [(0,1,(ki 1518500250)),(1,1,(ki 1276901417)),(2,1,(ki 1170923762)),(3,1,(ki 1121280436)),(4,1,(ki 1097253708)),(5,1,(ki 1085434106)),(6,1,(ki 1079572136)),(7,1,(ki 1076653033)),(8,1,(ki 1075196443)),(9,1,(ki 1074468888)),(10,1,(ki 1074105294)),(11,1,(ki 1073923544)),(12,1,(ki 1073832680)),(13,1,(ki 1073787251)),(14,1,(ki 1073764537)),(15,1,(ki 1073753181))]),e (.st 16 (.t 0) (.t 1))])
 .ret)),
 [.celln 0 16]⟩
def F139 : AFun := ⟨1,
 (.seq (.ops [o 2 (.mv (.k (.c (.int .i32 0))))])
 (.seq (.ops [o 10 (.mv (.t 0)),o 11 (.bin 0 .quo (.t 10) (ki 1073741824)),o 12 (.mv (.t 0)),o 13 (.bin 0 .rem (.t 12) (ki 1073741824)),o 3 (.mv (.t 11)),o 4 (.mv (.t 13))])
 (.seq (.seq (.ops [o 14 (.mv (.t 3)),o 15 (.bin 0 .rem (.t 14) (ki 2)),o 16 (.bin 0 .eql (.t 15) (ki 1))])
 (.cond (.t 16) (.ops [o 17 (.mv (.t 4)),o 18 (.bin 0 .sub (ki 1073741824) (.t 17)),o 4 (.mv (.t 18))])
 .skip))
 (.seq (.ops [o 19 (.mv (.t 4)),o 20 (.mv (.t 4)),o 21 (.bin 0 .mul (.t 19) (.t 20)),o 22 (.call 137 [(.t 21),(ki 30)]),o 5 (.mv (.t 22))])
 (.keep [3,4,5] (.seq (.ops [o 6 (.mv (ki 172272))])
 (.seq (.seq (.ops [o 23 (.agg [(.int .i64 0),(.int .i64 0),(.int .i64 0),(.int .i64 0)] [(0,1,(ki 5026995)),(1,1,(ki 85569306)),(2,1,(ki 693598668)),(3,1,(ki 1686629713))]),o 24 (.mv (ki 0))])
 (.block 0 (.loop [3,4,5,6,23,24] (.seq (.ops [o 25 (.bin 0 .lss (.t 24) (ki 4))])
 (.seq (.cond (.t 25) .skip
 (.exit 0))
 (.seq (.block 1 (.seq (.ops [o 26 (.ixv 4 none (.t 23) (.t 24)),o 8 (.mv (.t 26))])
 (.ops [o 27 (.mv (.t 8)),o 28 (.mv (.t 6)),o 29 (.mv (.t 5)),o 30 (.bin 0 .mul (.t 28) (.t 29)),o 31 (.call 137 [(.t 30),(ki 30)]),o 32 (.bin 0 .sub (.t 27) (.t 31)),o 6 (.mv (.t 32))])))
 (.keep [3,4,5,6,23,24] (.ops [o 33 (.bin 0 .add (.t 24) (ki 1)),o 24 (.mv (.t 33))]))))))))
 (.seq (.ops [o 34 (.mv (.t 6)),o 35 (.mv (.t 4)),o 36 (.bin 0 .mul (.t 34) (.t 35)),o 37 (.call 137 [(.t 36),(ki 30)]),o 38 (.bin 0 .add (.t 37) (ki 8192)),o 39 (.call 137 [(.t 38),(ki 14)]),o 40 (.mn [(.t 39),(ki 65536)]),o 9 (.mv (.t 40))])
 (.keep [3,9] (.seq (.seq (.ops [o 41 (.mv (.t 3)),o 42 (.bin 0 .geq (.t 41) (ki 2))])
 (.cond (.t 42) (.ops [o 43 (.mv (.t 9)),o 44 (.un .neg (.t 43)),o 9 (.mv (.t 44))])
 .skip))
 (.seq (.ops [o 45 (.mv (.t 9)),o 46 (.convi .i32 (.t 45)),o 2 (.mv (.t 46))])
 .ret))))))))))),
 [.tmp 2]⟩
def F140 : AFun := ⟨1,
 (.seq (.ops [o 2 (.mv (ki 0))])
 (.seq (.ops [o 4 (.mv (.t 0)),o 5 (.convi .i64 (.t 4)),o 6 (.bin 0 .mul (.t 5) (ki 683565276)),o 7 (.call 137 [(.t 6),(ki 16)]),o 8 (.bin 0 .rem (.t 7) (ki 4294967296)),o 3 (.mv (.t 8))])
 (.seq (.seq (.ops [o 9 (.mv (.t 3)),o 10 (.bin 0 .lss (.t 9) (ki 0))])
 (.cond (.t 10) (.ops [o 11 (.mv (.t 3)),o 12 (.bin 0 .add (.t 11) (ki 4294967296)),o 3 (.mv (.t 12))])
 .skip))
 (.seq (.ops [o 13 (.mv (.t 3)),o 2 (.mv (.t 13))])
 .ret)))),
 [.tmp 2]⟩
def F141 : AFun := ⟨1,
 (.seq (.ops [o 2 (.mv (.k (.c (.int .i32 0))))])
 (.seq (.seq (.ops [o 3 (.mv (.t 0)),o 4 (.bin 0 .lss (.t 3) (.k (.c (.int .i32 0))))])
 (.cond (.t 4) (.seq (.ops [o 5 (.mv (.t 0)),o 6 (.call 50 [(.t 5)]),o 2 (.mv (.t 6))])
 .ret)
 .skip))
 (.seq (.ops [o 7 (.mv (.t 0)),o 2 (.mv (.t 7))])
 .ret))),
 [.tmp 2]⟩
def F142 : AFun := ⟨1,
 (.seq (.ops [o 2 (.mv (.k (.c (.int .i32 0))))])
 (.seq (.ops [o 3 (.mv (.t 0)),o 4 (.mv (.t 0)),o 5 (.call 97 [(.t 4)]),o 6 (.call 95 [(.t 3),(.t 5)]),o 2 (.mv (.t 6))])
 .ret)),
 [.tmp 2]⟩
def F143 : AFun := ⟨2,
 (.seq (.ops [o 4 (.mv (ki 0))])
 (.seq (.seq (.ops [o 6 (.mv (.t 0)),o 7 (.len 0 (.t 6)),o 8 (.mv (ki 0))])
 (.block 0 (.loop [0,1,7,8] (.seq (.ops [o 9 (.bin 0 .lss (.t 8) (.t 7))])
 (.seq (.cond (.t 9) .skip
 (.exit 0))
 (.seq (.block 1 (.seq (.ops [o 10 (.mv (.t 8)),o 5 (.mv (.t 10))])
 (.seq (.ops [o 11 (.mv (.t 1)),o 12 (.mv (.t 0)),o 13 (.mv (.t 5)),o 14 (.ixs (.t 12) (.t 13)),o 15 (.callv (.t 11) [(.t 14)]),o 16 (.un .not (.t 15))])
 (.cond (.t 16) (.seq (.ops [o 17 (.mv (.t 5)),o 4 (.mv (.t 17))])
 .ret)
 .skip))))
 (.keep [0,1,7,8] (.ops [o 18 (.bin 0 .add (.t 8) (ki 1)),o 8 (.mv (.t 18))]))))))))
 (.seq (.ops [o 19 (.mv (.t 0)),o 20 (.len 0 (.t 19)),o 4 (.mv (.t 20))])
 .ret))),
 [.tmp 4]⟩
def F144 : AFun := ⟨1,
 (.seq (.ops [o 2 (.mv (.k (.c (.bool false))))])
 (.seq (.ops [o 3 (.mv (.t 0)),o 4 (.bin 0 .geq (.t 3) (.k (.c (.int .u8 9)))),o 5 (.mv (.t 4)),⟨(some 6),(.mv (.t 0)),some (5,true)⟩,⟨(some 7),(.bin 0 .leq (.t 6) (.k (.c (.int .u8 13)))),some (5,true)⟩,o 8 (.pick (.t 5) (.t 7) (.k (.c (.bool false)))),o 9 (.mv (.t 8)),⟨(some 10),(.mv (.t 0)),some (9,false)⟩,⟨(some 11),(.bin 0 .eql (.t 10) (.k (.c (.int .u8 32)))),some (9,false)⟩,o 12 (.pick (.t 9) (.k (.c (.bool true))) (.t 11)),o 2 (.mv (.t 12))])
 .ret)),
 [.tmp 2]⟩
def F145 : AFun := ⟨2,
 (.seq (.ops [o 4 (.mv (.k (.c (.int .u8 0))))])
 (.seq (.seq (.dops [.op 0 (o 5 (.mv (.t 0))),.op 4 (o 9 (.mv (.t 1))),.op 6 (o 11 (.mv (.t 0))),.op 1 (o 6 (.nilck (.t 5))),.op 7 (o 12 (.nilck (.t 11))),.op 2 (o 7 (.fa 1 (.t 6))),.op 8 (o 13 (.fa 0 (.t 12))),.op 3 (o 8 (.ld (.t 7))),.op 9 (o 14 (.ld (.t 13))),.op 10 (o 15 (.len 0 (.t 14))),.op 5 (o 10 (.bin 0 .add (.t 8) (.t 9))),.op 11 (o 16 (.bin 0 .lss (.t 10) (.t 15)))])
 (.keep [0,1,16] (.cond (.t 16) (.seq (.dops [.op 0 (o 17 (.mv (.t 0))),.op 4 (o 21 (.mv (.t 0))),.op 8 (o 25 (.mv (.t 1))),.op 1 (o 18 (.nilck (.t 17))),.op 5 (o 22 (.nilck (.t 21))),.op 2 (o 19 (.fa 0 (.t 18))),.op 6 (o 23 (.fa 1 (.t 22))),.op 3 (o 20 (.ld (.t 19))),.op 7 (o 24 (.ld (.t 23))),.op 9 (o 26 (.bin 0 .add (.t 24) (.t 25))),.op 10 (o 27 (.ixs (.t 20) (.t 26))),.op 11 (o 4 (.mv (.t 27)))])
 .ret)
 .skip)))
 (.keep [] (.seq (.ops [o 4 (.mv (.k (.c (.int .u8 0))))])
 .ret)))),
 [.tmp 4]⟩
def F146 : AFun := ⟨2,
 (.seq (.ops [o 4 (.mv (ki 0))])
 (.seq (.ops [o 5 (.mv (.t 0)),o 6 (.mv (.t 1)),o 7 (.call 183 [(.t 5),(.t 6)]),o 4 (.mv (.t 7))])
 .ret)),
 [.tmp 4]⟩
def F147 : AFun := ⟨2,
 (.seq (.ops [o 4 (.mv (ki 0))])
 (.seq (.ops [o 5 (.mv (.t 0)),o 6 (.mv (.t 1)),o 7 (.call 184 [(.t 5),(.t 6)]),o 4 (.mv (.t 7))])
 .ret)),
 [.tmp 4]⟩
def F148 : AFun := ⟨1,
 (.seq (.ops [o 2 (.mv (.k (.c (.bool false))))])
 (.seq (.ops [o 3 (.mv (.t 0)),o 4 (.bin 0 .or (.t 3) (.k (.c (.int .u8 32)))),o 5 (.bin 0 .geq (.t 4) (.k (.c (.int .u8 97)))),o 6 (.mv (.t 5)),⟨(some 7),(.mv (.t 0)),some (6,true)⟩,⟨(some 8),(.bin 0 .or (.t 7) (.k (.c (.int .u8 32)))),some (6,true)⟩,⟨(some 9),(.bin 0 .leq (.t 8) (.k (.c (.int .u8 122)))),some (6,true)⟩,o 10 (.pick (.t 6) (.t 9) (.k (.c (.bool false)))),o 11 (.mv (.t 10)),⟨(some 12),(.mv (.t 0)),some (11,false)⟩,⟨(some 13),(.bin 0 .eql (.t 12) (.k (.c (.int .u8 95)))),some (11,false)⟩,o 14 (.pick (.t 11) (.k (.c (.bool true))) (.t 13)),o 2 (.mv (.t 14))])
 .ret)),
 [.tmp 2]⟩
def F149 : AFun := ⟨1,
 (.seq (.ops [o 2 (.mv (.k (.c (.bool false))))])
 (.seq (.ops [o 3 (.mv (.t 0)),o 4 (.call 148 [(.t 3)]),o 5 (.mv (.t 4)),⟨(some 6),(.mv (.t 0)),some (5,false)⟩,⟨(some 7),(.call 150 [(.t 6)]),some (5,false)⟩,o 8 (.pick (.t 5) (.k (.c (.bool true))) (.t 7)),o 2 (.mv (.t 8))])
 .ret)),
 [.tmp 2]⟩
def F150 : AFun := ⟨1,
 (.seq (.ops [o 2 (.mv (.k (.c (.bool false))))])
 (.seq (.ops [o 3 (.mv (.t 0)),o 4 (.bin 0 .geq (.t 3) (.k (.c (.int .u8 48)))),o 5 (.mv (.t 4)),⟨(some 6),(.mv (.t 0)),some (5,true)⟩,⟨(some 7),(.bin 0 .leq (.t 6) (.k (.c (.int .u8 57)))),some (5,true)⟩,o 8 (.pick (.t 5) (.t 7) (.k (.c (.bool false)))),o 2 (.mv (.t 8))])
 .ret)),
 [.tmp 2]⟩
def F151 : AFun := ⟨1,
 (.seq (.ops [o 2 (.alloc [(.int .i64 0),(.str (bs [])),(.int .i32 0),(.int .i64 0),(.int .i64 0)]),o 3 (.mv (ki 0))])
 (.seq (.dops [.op 0 (o 14 (.mv (.t 0))),.op 4 (o 18 (.mv (.t 0))),.op 1 (o 15 (.nilck (.t 14))),.op 5 (o 19 (.nilck (.t 18))),.op 2 (o 16 (.fa 0 (.t 15))),.op 6 (o 20 (.fa 1 (.t 19))),.op 3 (o 17 (.ld (.t 16))),.op 7 (o 21 (.ld (.t 20))),.op 8 (o 22 (.slcs (.t 17) (some (.t 21)) none)),.op 9 (o 4 (.mv (.t 22)))])
 (.seq (.ops [o 23 (.mv (.t 4)),o 24 (.call 143 [(.t 23),(.f 150)]),o 5 (.mv (.t 24))])
 (.keep [0,2,4,5] (.seq (.ops [o 25 (.mv (.t 5)),o 26 (.mv (.t 4)),o 27 (.len 0 (.t 26)),o 28 (.bin 0 .lss (.t 25) (.t 27)),o 29 (.mv (.t 28)),⟨(some 30),(.mv (.t 4)),some (29,true)⟩,⟨(some 31),(.mv (.t 5)),some (29,true)⟩,⟨(some 32),(.ixs (.t 30) (.t 31)),some (29,true)⟩,⟨(some 33),(.bin 0 .eql (.t 32) (.k (.c (.int .u8 46)))),some (29,true)⟩,o 34 (.pick (.t 29) (.t 33) (.k (.c (.bool false)))),o 6 (.mv (.t 34))])
 (.keep [0,2,4,5,6] (.seq (.seq (.ops [o 35 (.mv (.t 6))])
 (.cond (.t 35) (.ops [o 36 (.mv (.t 5)),o 37 (.mv (.t 4)),o 38 (.mv (.t 5)),o 39 (.bin 0 .add (.t 38) (ki 1)),o 40 (.slcs (.t 37) (some (.t 39)) none),o 41 (.call 143 [(.t 40),(.f 150)]),o 42 (.bin 0 .add (ki 1) (.t 41)),o 43 (.bin 0 .add (.t 36) (.t 42)),o 5 (.mv (.t 43))])
 .skip))
 (.keep [0,2,4,5,6] (.seq (.ops [o 44 (.mv (.t 4)),o 45 (.mv (.t 5)),o 46 (.slcs (.t 44) none (some (.t 45))),o 7 (.mv (.t 46))])
 (.seq (.seq (.ops [o 47 (.mv (.t 0)),o 48 (.mv (.t 5)),o 49 (.call 145 [(.t 47),(.t 48)]),o 8 (.mv (.t 49))])
 (.block 0 (.seq (.seq (.ops [o 51 (.mv (.t 8)),o 52 (.call 148 [(.t 51)]),o 53 (.mv (.t 52)),⟨(some 54),(.mv (.t 8)),some (53,false)⟩,⟨(some 55),(.bin 0 .eql (.t 54) (.k (.c (.int .u8 46)))),some (53,false)⟩,o 56 (.pick (.t 53) (.k (.c (.bool true))) (.t 55)),o 50 (.mv (.t 56))])
 (.keep [2,5,6,7,50] (.cond (.t 50) .skip
 (.ops [o 57 (.mv (.t 6)),o 58 (.un .not (.t 57)),o 59 (.mv (.t 58)),⟨(some 60),(.mv (.t 5)),some (59,true)⟩,⟨(some 61),(.bin 0 .gtr (.t 60) (ki 1)),some (59,true)⟩,o 62 (.pick (.t 59) (.t 61) (.k (.c (.bool false)))),o 63 (.mv (.t 62)),⟨(some 64),(.mv (.t 7)),some (63,true)⟩,⟨(some 65),(.ixs (.t 64) (ki 0)),some (63,true)⟩,⟨(some 66),(.bin 0 .eql (.t 65) (.k (.c (.int .u8 48)))),some (63,true)⟩,o 67 (.pick (.t 63) (.t 66) (.k (.c (.bool false)))),o 50 (.mv (.t 67))]))))
 (.keep [2,6,7,50] (.cond (.t 50) (.seq (.ops [o 68 (.agg [(.int .i64 0),(.str (bs [])),(.int .i32 0),(.int .i64 0),(.int .i64 0)] []),e (.st 5 (.t 2) (.t 68)),o 3 (.mv (ki 200))])
 .ret)
 (.seq (.ops [o 70 (.mv (.t 6)),o 69 (.mv (.t 70))])
 (.cond (.t 69) (.seq (.ops [o 72 (.mv (.t 7)),o 73 (.call 185 [(.t 72)]),o 71 (.mv (.t 73)),o 74 (.ext 0 (.t 71)),o 75 (.ext 1 (.t 71)),o 9 (.mv (.t 74)),o 10 (.mv (.t 75))])
 (.seq (.ops [o 76 (.mv (.t 7)),o 77 (.mv (.t 9)),o 78 (.agg [(.int .i64 0),(.str (bs [])),(.int .i32 0),(.int .i64 0),(.int .i64 0)] [(0,1,(ki 3)),(1,1,(.t 76)),(2,1,(.t 77))]),o 79 (.mv (.t 10)),e (.st 5 (.t 2) (.t 78)),o 3 (.mv (.t 79))])
 .ret))
 .skip)))))))
 (.keep [2,7] (.seq (.ops [o 11 (.mv (ki 0))])
 (.seq (.seq (.ops [o 80 (.mv (.t 7)),o 81 (.rng (.t 80))])
 (.block 1 (.loop [2,7,11,81] (.seq (.ops [o 82 (.nxt (.t 81)),o 83 (.ext 0 (.t 82))])
 (.seq (.cond (.t 83) .skip
 (.exit 1))
 (.block 2 (.seq (.ops [o 84 (.ext 2 (.t 82)),o 13 (.mv (.t 84))])
 (.ops [o 85 (.mv (.t 11)),o 86 (.bin 0 .mul (.t 85) (ki 10)),o 87 (.mv (.t 13)),o 88 (.bin 0 .sub (.t 87) (.k (.c (.int .i32 48)))),o 89 (.convi .i64 (.t 88)),o 90 (.bin 0 .add (.t 86) (.t 89)),o 91 (.mn [(.t 90),(ki 32768)]),o 11 (.mv (.t 91))]))))))))
 (.keep [2,7,11] (.seq (.seq (.ops [o 92 (.mv (.t 11)),o 93 (.bin 0 .gtr (.t 92) (ki 32767))])
 (.cond (.t 93) (.seq (.ops [o 94 (.agg [(.int .i64 0),(.str (bs [])),(.int .i32 0),(.int .i64 0),(.int .i64 0)] []),e (.st 5 (.t 2) (.t 94)),o 3 (.mv (ki 120))])
 .ret)
 .skip))
 (.seq (.ops [o 95 (.mv (.t 7)),o 96 (.mv (.t 11)),o 97 (.call 53 [(.t 96)]),o 98 (.agg [(.int .i64 0),(.str (bs [])),(.int .i32 0),(.int .i64 0),(.int .i64 0)] [(0,1,(ki 2)),(1,1,(.t 95)),(2,1,(.t 97))]),e (.st 5 (.t 2) (.t 98)),o 3 (.mv (ki 0))])
 .ret)))))))))))))))),
 [.celln 2 5,.tmp 3]⟩
def F152 : AFun := ⟨1,
 (.seq (.ops [o 2 (.mv (ki 0))])
 (.seq (.ops [o 5 (.mv (.t 0)),o 6 (.call 145 [(.t 5),(ki 0)]),o 7 (.mv (.t 0)),o 8 (.call 145 [(.t 7),(ki 1)]),o 3 (.mv (.t 6)),o 4 (.mv (.t 8))])
 (.seq (.seq (.ops [o 9 (.mv (.t 3))])
 (.block 0 (.seq (.seq (.ops [o 11 (.bin 0 .eql (.t 9) (.k (.c (.int .u8 61)))),o 10 (.mv (.t 11))])
 (.cond (.t 10) .skip
 (.seq (.ops [o 12 (.bin 0 .eql (.t 9) (.k (.c (.int .u8 33)))),o 10 (.mv (.t 12))])
 (.cond (.t 10) .skip
 (.seq (.ops [o 13 (.bin 0 .eql (.t 9) (.k (.c (.int .u8 60)))),o 10 (.mv (.t 13))])
 (.keep [3,4,9,10] (.cond (.t 10) .skip
 (.seq (.ops [o 14 (.bin 0 .eql (.t 9) (.k (.c (.int .u8 62)))),o 10 (.mv (.t 14))])
 (.cond (.t 10) .skip
 (.seq (.ops [o 15 (.bin 0 .eql (.t 9) (.k (.c (.int .u8 42)))),o 10 (.mv (.t 15))])
 (.cond (.t 10) .skip
 (.ops [o 16 (.bin 0 .eql (.t 9) (.k (.c (.int .u8 47)))),o 10 (.mv (.t 16))]))))))))))))
 (.cond (.t 10) (.seq (.seq (.ops [o 17 (.mv (.t 4)),o 18 (.bin 0 .eql (.t 17) (.k (.c (.int .u8 61))))])
 (.keep [18] (.cond (.t 18) (.seq (.ops [o 2 (.mv (ki 2))])
 .ret)
 .skip)))
 (.seq (.ops [o 2 (.mv (ki 1))])
 .ret))
 (.seq (.seq (.ops [o 20 (.bin 0 .eql (.t 9) (.k (.c (.int .u8 43)))),o 19 (.mv (.t 20))])
 (.keep [3,4,9,19] (.cond (.t 19) .skip
 (.ops [o 21 (.bin 0 .eql (.t 9) (.k (.c (.int .u8 45)))),o 19 (.mv (.t 21))]))))
 (.cond (.t 19) (.seq (.seq (.ops [o 22 (.mv (.t 4)),o 23 (.bin 0 .eql (.t 22) (.k (.c (.int .u8 61)))),o 24 (.mv (.t 23)),⟨(some 25),(.mv (.t 4)),some (24,false)⟩,⟨(some 26),(.mv (.t 3)),some (24,false)⟩,⟨(some 27),(.bin 0 .eql (.t 25) (.t 26)),some (24,false)⟩,o 28 (.pick (.t 24) (.k (.c (.bool true))) (.t 27))])
 (.cond (.t 28) (.seq (.ops [o 2 (.mv (ki 2))])
 .ret)
 .skip))
 (.seq (.ops [o 2 (.mv (ki 1))])
 .ret))
 (.seq (.seq (.ops [o 30 (.bin 0 .eql (.t 9) (.k (.c (.int .u8 38)))),o 29 (.mv (.t 30))])
 (.cond (.t 29) .skip
 (.ops [o 31 (.bin 0 .eql (.t 9) (.k (.c (.int .u8 124)))),o 29 (.mv (.t 31))])))
 (.cond (.t 29) (.seq (.seq (.ops [o 32 (.mv (.t 4)),o 33 (.mv (.t 3)),o 34 (.bin 0 .eql (.t 32) (.t 33))])
 (.cond (.t 34) (.seq (.ops [o 2 (.mv (ki 2))])
 .ret)
 .skip))
 (.seq (.ops [o 2 (.mv (ki 0))])
 .ret))
 (.seq (.seq (.ops [o 36 (.bin 0 .eql (.t 9) (.k (.c (.int .u8 40)))),o 35 (.mv (.t 36))])
 (.cond (.t 35) .skip
 (.seq (.ops [o 37 (.bin 0 .eql (.t 9) (.k (.c (.int .u8 41)))),o 35 (.mv (.t 37))])
 (.cond (.t 35) .skip
 (.seq (.ops [o 38 (.bin 0 .eql (.t 9) (.k (.c (.int .u8 91)))),o 35 (.mv (.t 38))])
 (.keep [9,35] (.cond (.t 35) .skip
 (.seq (.ops [o 39 (.bin 0 .eql (.t 9) (.k (.c (.int .u8 93)))),o 35 (.mv (.t 39))])
 (.cond (.t 35) .skip
 (.seq (.ops [o 40 (.bin 0 .eql (.t 9) (.k (.c (.int .u8 123)))),o 35 (.mv (.t 40))])
 (.cond (.t 35) .skip
 (.seq (.ops [o 41 (.bin 0 .eql (.t 9) (.k (.c (.int .u8 125)))),o 35 (.mv (.t 41))])
 (.cond (.t 35) .skip
 (.seq (.ops [o 42 (.bin 0 .eql (.t 9) (.k (.c (.int .u8 46)))),o 35 (.mv (.t 42))])
 (.cond (.t 35) .skip
 (.seq (.ops [o 43 (.bin 0 .eql (.t 9) (.k (.c (.int .u8 44)))),o 35 (.mv (.t 43))])
 (.cond (.t 35) .skip
 (.seq (.ops [o 44 (.bin 0 .eql (.t 9) (.k (.c (.int .u8 59)))),o 35 (.mv (.t 44))])
 (.cond (.t 35) .skip
 (.seq (.ops [o 45 (.bin 0 .eql (.t 9) (.k (.c (.int .u8 58)))),o 35 (.mv (.t 45))])
 (.keep [9,35] (.cond (.t 35) .skip
 (.seq (.ops [o 46 (.bin 0 .eql (.t 9) (.k (.c (.int .u8 63)))),o 35 (.mv (.t 46))])
 (.cond (.t 35) .skip
 (.ops [o 47 (.bin 0 .eql (.t 9) (.k (.c (.int .u8 35)))),o 35 (.mv (.t 47))])))))))))))))))))))))))))
 (.cond (.t 35) (.seq (.ops [o 2 (.mv (ki 1))])
 .ret)
 .skip))))))))))
 (.keep [] (.seq (.ops [o 2 (.mv (ki 0))])
 .ret))))),
 [.tmp 2]⟩
def F153 : AFun := ⟨2,
 (.seq (.ops [o 4 (.mv (ki 0))])
 (.seq (.seq (.ops [o 7 (.mv (.t 1)),o 8 (.len 0 (.t 7)),o 9 (.bin 0 .eql (.t 8) (ki 0))])
 (.cond (.t 9) (.seq (.ops [o 10 (.mv (.t 0)),o 11 (.call 186 [(.t 10)]),o 12 (.bin 0 .add (.t 11) (ki 1)),o 4 (.mv (.t 12))])
 .ret)
 .skip))
 (.seq (.seq (.ops [o 13 (.mv (.t 1)),o 14 (.len 0 (.t 13)),o 15 (.bin 0 .eql (.t 14) (ki 1))])
 (.cond (.t 15) (.seq (.ops [o 16 (.mv (.t 0)),o 17 (.mv (.t 1)),o 18 (.ixs (.t 17) (ki 0)),o 19 (.call 187 [(.t 16),(.t 18)]),o 4 (.mv (.t 19))])
 .ret)
 .skip))
 (.keep [0,1] (.seq (.ops [o 5 (.mv (ki 0))])
 (.block 0 (.loop [0,1,5] (.block 1 (.seq (.ops [o 20 (.mv (.t 0)),o 21 (.mv (.t 1)),o 22 (.call 147 [(.t 20),(.t 21)]),o 6 (.mv (.t 22))])
 (.seq (.seq (.ops [o 23 (.mv (.t 6)),o 24 (.bin 0 .eql (.t 23) (ki (-1)))])
 (.cond (.t 24) (.seq (.ops [o 25 (.mv (.t 5)),o 4 (.mv (.t 25))])
 .ret)
 .skip))
 (.seq (.ops [o 26 (.mv (.t 5)),o 27 (.bin 0 .add (.t 26) (ki 1)),o 5 (.mv (.t 27))])
 (.ops [o 28 (.mv (.t 0)),o 29 (.mv (.t 6)),o 30 (.mv (.t 1)),o 31 (.len 0 (.t 30)),o 32 (.bin 0 .add (.t 29) (.t 31)),o 33 (.slcs (.t 28) (some (.t 32)) none),o 0 (.mv (.t 33))])))))))))))),
 [.tmp 4]⟩
def F154 : AFun := ⟨2,
 (.seq (.ops [o 2 (.box (.t 0)),o 3 (.box (.t 1)),o 4 (.mv (.k (.c (.bool false))))])
 (.seq (.ops [o 5 (.fa 0 (.t 2)),o 6 (.ld (.t 5)),o 7 (.fa 0 (.t 3)),o 8 (.ld (.t 7)),o 9 (.bin 0 .eql (.t 6) (.t 8)),o 10 (.mv (.t 9)),⟨(some 11),(.fa 1 (.t 2)),some (10,true)⟩,⟨(some 12),(.ld (.t 11)),some (10,true)⟩,⟨(some 13),(.fa 1 (.t 3)),some (10,true)⟩,⟨(some 14),(.ld (.t 13)),some (10,true)⟩,⟨(some 15),(.bin 0 .eql (.t 12) (.t 14)),some (10,true)⟩,o 16 (.pick (.t 10) (.t 15) (.k (.c (.bool false)))),o 17 (.mv (.t 16)),⟨(some 18),(.fa 2 (.t 2)),some (17,true)⟩,⟨(some 19),(.ld (.t 18)),some (17,true)⟩,⟨(some 20),(.fa 2 (.t 3)),some (17,true)⟩,⟨(some 21),(.ld (.t 20)),some (17,true)⟩,⟨(some 22),(.bin 0 .eql (.t 19) (.t 21)),some (17,true)⟩,o 23 (.pick (.t 17) (.t 22) (.k (.c (.bool false)))),o 4 (.mv (.t 23))])
 .ret)),
 [.tmp 4]⟩
def F155 : AFun := ⟨2,
 (.seq (.ops [o 4 (.mv (ki 0))])
 (.seq (.seq (.ops [o 6 (.mv (.t 0)),o 7 (.len 1 (.t 6)),o 8 (.mv (ki 0))])
 (.block 0 (.loop [0,1,7,8] (.seq (.ops [o 9 (.bin 0 .lss (.t 8) (.t 7))])
 (.seq (.cond (.t 9) .skip
 (.exit 0))
 (.seq (.block 1 (.seq (.ops [o 10 (.mv (.t 8)),o 5 (.mv (.t 10))])
 (.seq (.ops [o 11 (.mv (.t 1)),o 12 (.mv (.t 0)),o 13 (.mv (.t 5)),o 14 (.ixa 5 (.t 12) (.t 13)),o 15 (.ldn 5 (.t 14)),o 16 (.callv (.t 11) [(.t 15)])])
 (.cond (.t 16) (.seq (.ops [o 17 (.mv (.t 5)),o 4 (.mv (.t 17))])
 .ret)
 .skip))))
 (.keep [0,1,7,8] (.ops [o 18 (.bin 0 .add (.t 8) (ki 1)),o 8 (.mv (.t 18))]))))))))
 (.seq (.ops [o 4 (.mv (ki (-1)))])
 .ret))),
 [.tmp 4]⟩
def F156 : AFun := ⟨5,
 (.seq (.seq (.ops [o 10 (.mv (.t 1)),o 11 (.bin 0 .gtr (.t 10) (ki 32)),o 12 (.mv (.t 11)),⟨(some 13),(.fa 0 (.t 2)),some (12,true)⟩,⟨(some 14),(.ld (.t 13)),some (12,true)⟩,⟨(some 15),(.bin 0 .eql (.t 14) (ki 0)),some (12,true)⟩,o 16 (.pick (.t 12) (.t 15) (.k (.c (.bool false))))])
 (.cond (.t 16) (.dops [.op 0 (o 17 (.mv (.t 0))),.op 1 (o 18 (.nilck (.t 17))),.op 2 (o 19 (.fa 0 (.t 18))),.op 3 (o 20 (.fa 5 (.t 19))),.op 4 (o 21 (.ld (.t 20))),.eff 5 (e (.st 2 (.t 2) (.k (.agg [(.int .i64 0),(.int .i64 0)])))) [o 21 (.ld (.t 20))],.op 6 (o 22 (.fa 0 (.t 2))),.eff 7 (e (.st 1 (.t 22) (ki 3))) [o 21 (.ld (.t 20))],.op 8 (o 23 (.fa 1 (.t 2))),.eff 9 (e (.st 1 (.t 23) (.t 21))) []])
 .skip))
 (.keep [0,1,2,3,4] (.seq (.seq (.ops [o 24 (.fa 0 (.t 2)),o 25 (.ld (.t 24)),o 26 (.bin 0 .neq (.t 25) (ki 0))])
 (.cond (.t 26) .ret
 .skip))
 (.seq (.ops [o 27 (.fa 0 (.t 3)),o 28 (.ld (.t 27)),o 29 (.len 1 (.t 28)),o 7 (.mv (.t 29))])
 (.seq (.dops [.op 0 (o 30 (.fa 0 (.t 3))),.op 2 (o 32 (.mv (.t 0))),.op 1 (o 31 (.ld (.t 30))),.op 3 (o 33 (.nilck (.t 32))),.op 4 (o 34 (.fa 0 (.t 33))),.op 5 (o 35 (.ldn 6 (.t 34))),.eff 6 (o 36 (.mks [(.int .i64 0),(.str (bs [])),(.str (bs [])),(.int .i32 0),.nilslice,(.int .i64 0)] 1 [(0,6,(.t 35))])) [o 31 (.ld (.t 30))],.eff 7 (o 37 (.app 6 80 (.t 31) (.t 36))) [],.op 8 (o 38 (.fa 0 (.t 3))),.eff 9 (e (.st 1 (.t 38) (.t 37))) []])
 (.keep [0,1,3,4,7] (.seq (.ops [o 39 (.mv (.t 0)),o 40 (.nilck (.t 39)),o 41 (.fa 6 (.t 40)),o 42 (.ld (.t 41)),o 43 (.len 1 (.t 42)),o 44 (.mv (ki 0))])
 (.block 0 (.loop [1,3,4,7,42,43,44] (.seq (.ops [o 45 (.bin 0 .lss (.t 44) (.t 43))])
 (.seq (.cond (.t 45) .skip
 (.exit 0))
 (.seq (.block 1 (.seq (.ops [o 46 (.ixa 1 (.t 42) (.t 44)),o 47 (.ld (.t 46)),o 9 (.mv (.t 47))])
 (.seq (.dops [.op 0 (o 48 (.fa 0 (.t 3))),.op 2 (o 50 (.mv (.t 7))),.op 3 (o 51 (.fa 0 (.t 3))),.op 5 (o 53 (.mv (.t 7))),.op 9 (o 57 (.fa 0 (.t 3))),.op 1 (o 49 (.ld (.t 48))),.op 4 (o 52 (.ld (.t 51))),.op 10 (o 58 (.ld (.t 57))),.op 11 (o 59 (.len 1 (.t 58))),.op 6 (o 54 (.ixa 6 (.t 52) (.t 53))),.op 7 (o 55 (.fa 4 (.t 54))),.op 8 (o 56 (.ld (.t 55))),.eff 12 (o 60 (.mks [(.int .i64 0)] 1 [(0,1,(.t 59))])) [o 49 (.ld (.t 48)),o 52 (.ld (.t 51)),o 56 (.ld (.t 55))],.eff 13 (o 61 (.app 1 8 (.t 56) (.t 60))) [o 49 (.ld (.t 48))],.op 14 (o 62 (.ixa 6 (.t 49) (.t 50))),.op 15 (o 63 (.fa 4 (.t 62))),.eff 16 (e (.st 1 (.t 63) (.t 61))) []])
 (.keep [1,3,4,7,9,42,43,44] (.ops [o 64 (.ld (.t 4)),o 65 (.mv (.t 9)),o 66 (.mv (.t 1)),o 67 (.bin 0 .add (.t 66) (ki 1)),o 68 (.callv (.t 64) [(.t 65),(.t 67)])])))))
 (.ops [o 69 (.bin 0 .add (.t 44) (ki 1)),o 44 (.mv (.t 69))]))))))))))))),
 []⟩
def F157 : AFun := ⟨2,
 (.seq (.ops [o 4 (.alloc [(.int .i64 0),(.str (bs [])),(.int .i32 0),(.int .i64 0),(.int .i64 0)])])
 (.seq (.seq (.dops [.op 0 (o 5 (.mv (.t 0))),.op 4 (o 9 (.mv (.t 1))),.op 6 (o 11 (.mv (.t 0))),.op 1 (o 6 (.nilck (.t 5))),.op 7 (o 12 (.nilck (.t 11))),.op 2 (o 7 (.fa 1 (.t 6))),.op 8 (o 13 (.fa 0 (.t 12))),.op 3 (o 8 (.ld (.t 7))),.op 9 (o 14 (.ld (.t 13))),.op 10 (o 15 (.len 1 (.t 14))),.op 5 (o 10 (.bin 0 .add (.t 8) (.t 9))),.op 11 (o 16 (.bin 0 .lss (.t 10) (.t 15)))])
 (.keep [0,1,4,16] (.cond (.t 16) (.seq (.dops [.op 0 (o 17 (.mv (.t 0))),.op 4 (o 21 (.mv (.t 0))),.op 8 (o 25 (.mv (.t 1))),.op 1 (o 18 (.nilck (.t 17))),.op 5 (o 22 (.nilck (.t 21))),.op 2 (o 19 (.fa 0 (.t 18))),.op 6 (o 23 (.fa 1 (.t 22))),.op 3 (o 20 (.ld (.t 19))),.op 7 (o 24 (.ld (.t 23))),.op 9 (o 26 (.bin 0 .add (.t 24) (.t 25))),.op 10 (o 27 (.ixa 5 (.t 20) (.t 26))),.op 11 (o 28 (.ldn 5 (.t 27))),.eff 12 (e (.st 5 (.t 4) (.t 28))) []])
 .ret)
 .skip)))
 (.keep [4] (.seq (.ops [o 29 (.agg [(.int .i64 0),(.str (bs [])),(.int .i32 0),(.int .i64 0),(.int .i64 0)] []),e (.st 5 (.t 4) (.t 29))])
 .ret)))),
 [.celln 4 5]⟩
def F158 : AFun := ⟨1,
 (.seq (.ops [o 2 (.mv (.k (.c (.bool false))))])
 (.seq (.seq (.ops [o 3 (.mv (.t 0))])
 (.block 0 (.seq (.seq (.ops [o 5 (.bin 0 .eql (.t 3) (.k (.c (.str (bs [97,116,116,114,105,98,117,116,101]))))),o 4 (.mv (.t 5))])
 (.cond (.t 4) .skip
 (.seq (.ops [o 6 (.bin 0 .eql (.t 3) (.k (.c (.str (bs [117,110,105,102,111,114,109]))))),o 4 (.mv (.t 6))])
 (.cond (.t 4) .skip
 (.seq (.ops [o 7 (.bin 0 .eql (.t 3) (.k (.c (.str (bs [118,97,114,121,105,110,103]))))),o 4 (.mv (.t 7))])
 (.cond (.t 4) .skip
 (.ops [o 8 (.bin 0 .eql (.t 3) (.k (.c (.str (bs [99,111,110,115,116]))))),o 4 (.mv (.t 8))])))))))
 (.cond (.t 4) (.seq (.ops [o 2 (.mv (.k (.c (.bool true))))])
 .ret)
 .skip))))
 (.seq (.ops [o 2 (.mv (.k (.c (.bool false))))])
 .ret))),
 [.tmp 2]⟩
def F159 : AFun := ⟨2,
 (.seq (.ops [o 4 (.alloc [(.int .i64 0),(.str (bs [])),(.int .i32 0),(.int .i64 0),(.int .i64 0)])])
 (.seq (.ops [o 6 (.mv (.t 0)),o 7 (.call 157 [(.t 6),(ki 0)]),o 5 (.alloc [(.int .i64 0),(.str (bs [])),(.int .i32 0),(.int .i64 0),(.int .i64 0)]),e (.st 5 (.t 5) (.t 7))])
 (.seq (.seq (.dops [.op 0 (o 8 (.mv (.t 0))),.op 4 (o 12 (.mv (.t 0))),.op 1 (o 9 (.nilck (.t 8))),.op 5 (o 13 (.nilck (.t 12))),.op 2 (o 10 (.fa 1 (.t 9))),.op 6 (o 14 (.fa 0 (.t 13))),.op 3 (o 11 (.ld (.t 10))),.op 7 (o 15 (.ld (.t 14))),.op 8 (o 16 (.len 1 (.t 15))),.op 9 (o 17 (.bin 0 .eql (.t 11) (.t 16))),.op 10 (o 18 (.mv (.t 17))),.op 11 (⟨(some 19),(.mv (.t 1)),some (18,false)⟩),.op 12 (⟨(some 20),(.ldn 5 (.t 5)),some (18,false)⟩),.eff 13 (⟨(some 21),(.callv (.t 19) [(.t 20)]),some (18,false)⟩) [],.op 14 (⟨(some 22),(.un .not (.t 21)),some (18,false)⟩),.op 15 (o 23 (.pick (.t 18) (.k (.c (.bool true))) (.t 22)))])
 (.keep [0,4,5,23] (.cond (.t 23) (.ops [o 24 (.agg [] []),o 25 (.mki (.t 24)),e (.pnc (.t 25))])
 .skip)))
 (.seq (.ops [o 26 (.mv (.t 0)),o 27 (.nilck (.t 26)),o 28 (.fa 1 (.t 27)),o 29 (.ld (.t 28)),o 30 (.bin 0 .add (.t 29) (ki 1)),o 31 (.nilck (.t 26)),o 32 (.fa 1 (.t 31)),e (.st 1 (.t 32) (.t 30))])
 (.keep [4,5] (.seq (.ops [o 33 (.ldn 5 (.t 5)),e (.st 5 (.t 4) (.t 33))])
 .ret)))))),
 [.celln 4 5]⟩
def F160 : AFun := ⟨1,
 (.seq (.ops [o 1 (.box (.t 0)),o 2 (.mv (.k (.c (.bool false))))])
 (.seq (.ops [o 3 (.fa 0 (.t 1)),o 4 (.ld (.t 3)),o 5 (.bin 0 .eql (.t 4) (ki 1)),o 6 (.mv (.t 5)),⟨(some 7),(.fa 1 (.t 1)),some (6,true)⟩,⟨(some 8),(.ld (.t 7)),some (6,true)⟩,⟨(some 9),(.call 188 [(.t 8)]),some (6,true)⟩,o 10 (.pick (.t 6) (.t 9) (.k (.c (.bool false)))),o 2 (.mv (.t 10))])
 .ret)),
 [.tmp 2]⟩
def F161 : AFun := ⟨1,
 (.seq (.ops [o 1 (.box (.t 0)),o 2 (.mv (.k (.c (.bool false))))])
 (.seq (.ops [o 3 (.fa 0 (.t 1)),o 4 (.ld (.t 3)),o 5 (.bin 0 .eql (.t 4) (ki 1)),o 6 (.mv (.t 5)),⟨(some 7),(.fa 1 (.t 1)),some (6,true)⟩,⟨(some 8),(.ld (.t 7)),some (6,true)⟩,⟨(some 9),(.call 189 [(.t 8)]),some (6,true)⟩,⟨(some 10),(.un .not (.t 9)),some (6,true)⟩,o 11 (.pick (.t 6) (.t 10) (.k (.c (.bool false)))),o 2 (.mv (.t 11))])
 .ret)),
 [.tmp 2]⟩
def F162 : AFun := ⟨2,
 (.seq (.ops [o 2 (.box (.t 0)),o 4 (.mv (.k (.c (.bool false))))])
 (.seq (.ops [o 5 (.fa 0 (.t 2)),o 6 (.ld (.t 5)),o 7 (.bin 0 .eql (.t 6) (ki 4)),o 8 (.mv (.t 7)),⟨(some 9),(.fa 0 (.t 2)),some (8,false)⟩,⟨(some 10),(.ld (.t 9)),some (8,false)⟩,⟨(some 11),(.bin 0 .eql (.t 10) (ki 1)),some (8,false)⟩,o 12 (.pick (.t 8) (.k (.c (.bool true))) (.t 11)),o 13 (.mv (.t 12)),⟨(some 14),(.mv (.t 1)),some (13,true)⟩,⟨(some 15),(.fa 1 (.t 2)),some (13,true)⟩,⟨(some 16),(.ld (.t 15)),some (13,true)⟩,⟨(some 17),(.call 190 [(.t 14),(.t 16)]),some (13,true)⟩,o 18 (.pick (.t 13) (.t 17) (.k (.c (.bool false)))),o 4 (.mv (.t 18))])
 .ret)),
 [.tmp 4]⟩
def F163 : AFun := ⟨2,
 (.seq (.ops [o 2 (.box (.t 0)),o 3 (.box (.t 1)),o 4 (.mv (.k (.c .nilptr)))])
 (.seq (.dops [.op 0 (o 6 (.ldn 5 (.t 3))),.op 1 (o 7 (.ld (.t 2))),.eff 2 (o 8 (.call 159 [(.t 7),(.f 161)])) [o 6 (.ldn 5 (.t 3))],.op 3 (o 9 (.fv 1 none (.t 8))),.eff 4 (o 10 (.call 191 [(ki 4),(.t 6),(.t 9),(.k (.c .nilslice))])) [],.op 5 (o 5 (.mv (.t 10)))])
 (.seq (.ops [o 11 (.mv (.t 5)),o 12 (.fa 1 (.t 3)),o 13 (.ld (.t 12)),o 14 (.nilck (.t 11)),o 15 (.fa 0 (.t 14)),o 16 (.fa 1 (.t 15)),e (.st 1 (.t 16) (.t 13))])
 (.keep [2,5] (.seq (.ops [o 17 (.ld (.t 2)),o 18 (.call 192 [(.t 17),(.k (.c (.str (bs [40]))))])])
 (.seq (.ops [o 19 (.mv (.t 5)),o 20 (.ld (.t 2)),o 21 (.mkf 194 [] [(.t 2)]),o 22 (.call 193 [(.t 20),(.t 21)]),o 23 (.nilck (.t 19)),o 24 (.fa 6 (.t 23)),e (.st 1 (.t 24) (.t 22))])
 (.seq (.dops [.op 0 (o 25 (.mv (.t 5))),.op 1 (o 26 (.mv (.t 5))),.op 5 (o 30 (.ld (.t 2))),.op 2 (o 27 (.nilck (.t 26))),.op 3 (o 28 (.fa 6 (.t 27))),.op 4 (o 29 (.ld (.t 28))),.eff 6 (o 31 (.call 195 [(.t 30)])) [o 29 (.ld (.t 28))],.eff 7 (o 32 (.mks [.nilptr] 1 [(0,1,(.t 31))])) [o 29 (.ld (.t 28))],.eff 8 (o 33 (.app 1 8 (.t 29) (.t 32))) [],.op 9 (o 34 (.nilck (.t 25))),.op 10 (o 35 (.fa 6 (.t 34))),.eff 11 (e (.st 1 (.t 35) (.t 33))) []])
 (.keep [5] (.seq (.ops [o 36 (.mv (.t 5)),o 4 (.mv (.t 36))])
 .ret))))))))),
 [.tmp 4]⟩
def F164 : AFun := ⟨4,
 (.seq (.ops [o 5 (.box (.t 1)),o 6 (.box (.t 2)),o 8 (.mv (.k (.c .nilptr)))])
 (.seq (.ops [o 15 (.ldn 5 (.t 5)),o 16 (.mv (.t 3)),o 17 (.call 191 [(ki 2),(.t 15),(.t 16),(.k (.c .nilslice))]),o 9 (.mv (.t 17))])
 (.seq (.ops [o 18 (.mv (.t 9)),o 19 (.fa 1 (.t 6)),o 20 (.ld (.t 19)),o 21 (.nilck (.t 18)),o 22 (.fa 0 (.t 21)),o 23 (.fa 1 (.t 22)),e (.st 1 (.t 23) (.t 20))])
 (.keep [0,9] (.seq (.seq (.ops [o 10 (.mv (.k (.c (.bool true))))])
 (.block 0 (.loop [0,9,10] (.seq (.seq (.ops [o 24 (.mv (.t 10))])
 (.cond (.t 24) .skip
 (.exit 0)))
 (.seq (.block 1 (.seq (.ops [o 31 (.mv (.t 0)),o 32 (.call 159 [(.t 31),(.f 161)]),o 11 (.alloc [(.int .i64 0),(.str (bs [])),(.int .i32 0),(.int .i64 0),(.int .i64 0)]),e (.st 5 (.t 11) (.t 32))])
 (.seq (.ops [o 33 (.ldn 5 (.t 11)),o 34 (.fa 1 (.t 11)),o 35 (.ld (.t 34)),o 36 (.call 191 [(ki 3),(.t 33),(.t 35),(.k (.c .nilslice))]),o 12 (.mv (.t 36))])
 (.seq (.seq (.ops [o 38 (.mv (.t 0)),o 39 (.mks [(.str (bs []))] 1 [(0,1,(.k (.c (.str (bs [61])))))]),o 40 (.call 196 [(.t 38),(.t 39)]),o 37 (.mv (.t 40)),o 41 (.ext 0 (.t 37)),o 42 (.ext 1 (.t 37)),o 13 (.alloc [(.int .i64 0),(.str (bs [])),(.int .i32 0),(.int .i64 0),(.int .i64 0)]),e (.st 5 (.t 13) (.t 41)),o 14 (.mv (.t 42))])
 (.keep [0,9,12,14] (.seq (.ops [o 43 (.mv (.t 14))])
 (.cond (.t 43) (.ops [o 44 (.mv (.t 12)),o 45 (.mv (.t 0)),o 46 (.call 197 [(.t 45)]),o 47 (.mks [.nilptr] 1 [(0,1,(.t 46))]),o 48 (.nilck (.t 44)),o 49 (.fa 6 (.t 48)),e (.st 1 (.t 49) (.t 47))])
 .skip))))
 (.ops [o 50 (.mv (.t 9)),o 51 (.mv (.t 9)),o 52 (.nilck (.t 51)),o 53 (.fa 6 (.t 52)),o 54 (.ld (.t 53)),o 55 (.mv (.t 12)),o 56 (.mks [.nilptr] 1 [(0,1,(.t 55))]),o 57 (.app 1 8 (.t 54) (.t 56)),o 58 (.nilck (.t 50)),o 59 (.fa 6 (.t 58)),e (.st 1 (.t 59) (.t 57))])))))
 (.keep [0,9] (.ops [o 26 (.mv (.t 0)),o 27 (.mks [(.str (bs []))] 1 [(0,1,(.k (.c (.str (bs [44])))))]),o 28 (.call 196 [(.t 26),(.t 27)]),o 25 (.mv (.t 28)),o 29 (.ext 0 (.t 25)),o 30 (.ext 1 (.t 25)),o 10 (.mv (.t 30))])))))))
 (.seq (.ops [o 60 (.mv (.t 0)),o 61 (.call 192 [(.t 60),(.k (.c (.str (bs [59]))))])])
 (.seq (.ops [o 62 (.mv (.t 9)),o 8 (.mv (.t 62))])
 .ret))))))),
 [.tmp 8]⟩
def F165 : AFun := ⟨3,
 (.seq (.ops [o 3 (.box (.t 0)),o 6 (.mv (ki 0))])
 (.scope (.seq (.seq (.ops [o 13 (.mv (.t 1)),o 14 (.ld (.t 3)),o 15 (.nilck (.t 14)),o 16 (.fa 0 (.t 15)),o 17 (.ld (.t 16)),o 18 (.len 1 (.t 17)),o 19 (.bin 0 .geq (.t 13) (.t 18)),o 20 (.mv (.t 19)),⟨(some 21),(.ld (.t 3)),some (20,false)⟩,⟨(some 22),(.nilck (.t 21)),some (20,false)⟩,⟨(some 23),(.fa 1 (.t 22)),some (20,false)⟩,⟨(some 24),(.ld (.t 23)),some (20,false)⟩,⟨(some 25),(.bin 0 .gtr (.t 24) (ki 32)),some (20,false)⟩,o 26 (.pick (.t 20) (.k (.c (.bool true))) (.t 25))])
 (.keep [1,2,3,6,26] (.cond (.t 26) (.seq (.ops [o 6 (.mv (ki (-1)))])
 .ret)
 .skip)))
 (.seq (.ops [o 27 (.ld (.t 3)),o 28 (.nilck (.t 27)),o 29 (.fa 0 (.t 28)),o 30 (.ld (.t 29)),o 31 (.mv (.t 1)),o 32 (.ixa 6 (.t 30) (.t 31)),o 33 (.ldn 6 (.t 32)),o 7 (.alloc [(.int .i64 0),(.str (bs [])),(.str (bs [])),(.int .i32 0),.nilslice,(.int .i64 0)]),e (.st 6 (.t 7) (.t 33))])
 (.seq (.ops [o 35 (.ldn 6 (.t 7)),o 36 (.call 198 [(.t 35)]),o 34 (.mv (.t 36)),o 37 (.ext 0 (.t 34)),o 38 (.ext 1 (.t 34)),o 8 (.mv (.t 37)),o 9 (.mv (.t 38))])
 (.keep [1,2,3,6,7,8,9] (.seq (.seq (.dops [.op 0 (o 39 (.mv (.t 9))),.op 1 (o 40 (.un .not (.t 39))),.op 2 (o 41 (.mv (.t 40))),.op 3 (⟨(some 42),(.ldn 6 (.t 7)),some (41,false)⟩),.op 4 (⟨(some 43),(.ld (.t 3)),some (41,false)⟩),.op 8 (⟨(some 47),(.mv (.t 2)),some (41,false)⟩),.op 5 (⟨(some 44),(.nilck (.t 43)),some (41,false)⟩),.op 6 (⟨(some 45),(.fa 3 (.t 44)),some (41,false)⟩),.op 7 (⟨(some 46),(.ld (.t 45)),some (41,false)⟩),.eff 9 (⟨(some 48),(.call 199 [(.t 42),(.t 46),(.t 47)]),some (41,false)⟩) [],.op 10 (⟨(some 49),(.un .not (.t 48)),some (41,false)⟩),.op 11 (o 50 (.pick (.t 41) (.k (.c (.bool true))) (.t 49)))])
 (.keep [1,3,6,7,8,50] (.cond (.t 50) (.seq (.ops [o 6 (.mv (ki (-1)))])
 .ret)
 .skip)))
 (.seq (.dops [.op 0 (o 51 (.ld (.t 3))),.op 1 (o 52 (.ld (.t 3))),.op 5 (o 56 (.ld (.t 3))),.op 2 (o 53 (.nilck (.t 52))),.op 6 (o 57 (.nilck (.t 56))),.op 3 (o 54 (.fa 2 (.t 53))),.op 7 (o 58 (.fa 1 (.t 57))),.op 4 (o 55 (.ld (.t 54))),.op 8 (o 59 (.ld (.t 58))),.op 9 (o 60 (.mx [(.t 55),(.t 59)])),.op 10 (o 61 (.nilck (.t 51))),.op 11 (o 62 (.fa 2 (.t 61))),.eff 12 (e (.st 1 (.t 62) (.t 60))) []])
 (.keep [1,3,6,7,8] (.seq (.ops [o 63 (.ld (.t 3)),o 64 (.nilck (.t 63)),o 65 (.fa 1 (.t 64)),o 66 (.ld (.t 65)),o 67 (.bin 0 .add (.t 66) (ki 1)),o 68 (.nilck (.t 63)),o 69 (.fa 1 (.t 68)),e (.st 1 (.t 69) (.t 67))])
 (.seq (.ops [o 70 (.mkf 200 [] [(.t 3)]),e (.dfr (.t 70))])
 (.seq (.seq (.ops [o 71 (.fa 0 (.t 7)),o 72 (.ld (.t 71)),o 73 (.bin 0 .eql (.t 72) (ki 4))])
 (.keep [1,3,6,7,8,73] (.cond (.t 73) (.seq (.ops [o 74 (.ld (.t 3)),o 75 (.nilck (.t 74)),o 76 (.fa 3 (.t 75)),e (.st 1 (.t 76) (.k (.c (.bool true))))])
 (.ops [o 77 (.mkf 201 [] [(.t 3)]),e (.dfr (.t 77))]))
 .skip)))
 (.seq (.ops [o 78 (.mv (.t 1)),o 79 (.bin 0 .add (.t 78) (ki 1)),o 10 (.mv (.t 79))])
 (.seq (.label 0)
 (.seq (.seq (.ops [o 80 (.fa 4 (.t 7)),o 81 (.ld (.t 80)),o 82 (.len 1 (.t 81)),o 83 (.mv (ki 0))])
 (.block 0 (.loop [1,3,6,7,8,10,81,82,83] (.seq (.ops [o 84 (.bin 0 .lss (.t 83) (.t 82))])
 (.seq (.cond (.t 84) .skip
 (.exit 0))
 (.seq (.block 1 (.seq (.ops [o 85 (.mv (.t 83)),o 86 (.ixa 1 (.t 81) (.t 83)),o 87 (.ld (.t 86)),o 11 (.mv (.t 85)),o 12 (.mv (.t 87))])
 (.seq (.seq (.dops [.op 0 (o 88 (.mv (.t 12))),.op 1 (o 89 (.mv (.t 10))),.op 2 (o 90 (.bin 0 .neq (.t 88) (.t 89))),.op 3 (o 91 (.mv (.t 90))),.op 4 (⟨(some 92),(.mv (.t 12)),some (91,false)⟩),.op 5 (⟨(some 93),(.ld (.t 3)),some (91,false)⟩),.op 6 (⟨(some 94),(.nilck (.t 93)),some (91,false)⟩),.op 7 (⟨(some 95),(.fa 0 (.t 94)),some (91,false)⟩),.op 8 (⟨(some 96),(.ld (.t 95)),some (91,false)⟩),.op 9 (⟨(some 97),(.len 1 (.t 96)),some (91,false)⟩),.op 10 (⟨(some 98),(.bin 0 .geq (.t 92) (.t 97)),some (91,false)⟩),.op 11 (o 99 (.pick (.t 91) (.k (.c (.bool true))) (.t 98))),.op 12 (o 100 (.mv (.t 99))),.op 13 (⟨(some 101),(.mv (.t 8)),some (100,false)⟩),.op 14 (⟨(some 102),(.mv (.t 11)),some (100,false)⟩),.op 17 (⟨(some 105),(.ld (.t 3)),some (100,false)⟩),.op 21 (⟨(some 109),(.mv (.t 12)),some (100,false)⟩),.op 18 (⟨(some 106),(.nilck (.t 105)),some (100,false)⟩),.op 15 (⟨(some 103),(.ixa 1 (.t 101) (.t 102)),some (100,false)⟩),.op 19 (⟨(some 107),(.fa 0 (.t 106)),some (100,false)⟩),.op 16 (⟨(some 104),(.ld (.t 103)),some (100,false)⟩),.op 20 (⟨(some 108),(.ld (.t 107)),some (100,false)⟩),.op 22 (⟨(some 110),(.ixa 6 (.t 108) (.t 109)),some (100,false)⟩),.op 23 (⟨(some 111),(.fa 0 (.t 110)),some (100,false)⟩),.op 24 (⟨(some 112),(.ld (.t 111)),some (100,false)⟩),.eff 25 (⟨(some 113),(.call 202 [(.t 104),(.t 112)]),some (100,false)⟩) [],.op 26 (⟨(some 114),(.un .not (.t 113)),some (100,false)⟩),.op 27 (o 115 (.pick (.t 100) (.k (.c (.bool true))) (.t 114)))])
 (.keep [1,3,6,7,8,11,12,81,82,83,115] (.cond (.t 115) (.seq (.ops [o 10 (.mv (ki (-1)))])
 (.exit 0))
 .skip)))
 (.seq (.dops [.op 0 (o 116 (.ld (.t 3))),.op 1 (o 117 (.mv (.t 12))),.op 2 (o 118 (.mv (.t 8))),.op 3 (o 119 (.mv (.t 11))),.op 4 (o 120 (.ixa 1 (.t 118) (.t 119))),.op 5 (o 121 (.ld (.t 120))),.op 6 (o 122 (.bin 0 .eql (.t 121) (ki 6))),.eff 7 (o 123 (.call 165 [(.t 116),(.t 117),(.t 122)])) [],.op 8 (o 10 (.mv (.t 123)))])
 (.keep [1,3,6,7,8,10,81,82,83] (.seq (.ops [o 124 (.mv (.t 10)),o 125 (.bin 0 .eql (.t 124) (ki (-1)))])
 (.cond (.t 125) (.exit 0)
 .skip)))))))
 (.ops [o 126 (.bin 0 .add (.t 83) (ki 1)),o 83 (.mv (.t 126))])))))))
 (.seq (.block 2 (.seq (.ops [o 128 (.mv (.t 10)),o 129 (.bin 0 .eql (.t 128) (ki (-1))),o 127 (.mv (.t 129))])
 (.keep [1,3,6,7,10,127] (.cond (.t 127) .skip
 (.seq (.dops [.op 0 (o 131 (.fa 0 (.t 7))),.op 1 (o 132 (.ld (.t 131))),.op 2 (o 133 (.bin 0 .eql (.t 132) (ki 7))),.op 3 (o 134 (.mv (.t 133))),.op 4 (⟨(some 135),(.fa 4 (.t 7)),some (134,true)⟩),.op 5 (⟨(some 136),(.ld (.t 135)),some (134,true)⟩),.op 6 (⟨(some 137),(.len 1 (.t 136)),some (134,true)⟩),.op 7 (⟨(some 138),(.bin 0 .eql (.t 137) (ki 3)),some (134,true)⟩),.op 8 (o 139 (.pick (.t 134) (.t 138) (.k (.c (.bool false))))),.op 9 (o 140 (.mv (.t 139))),.op 10 (⟨(some 141),(.ld (.t 3)),some (140,true)⟩),.op 11 (⟨(some 142),(.fa 4 (.t 7)),some (140,true)⟩),.op 12 (⟨(some 143),(.ld (.t 142)),some (140,true)⟩),.op 13 (⟨(some 144),(.ixa 1 (.t 143) (ki 1)),some (140,true)⟩),.op 14 (⟨(some 145),(.ld (.t 144)),some (140,true)⟩),.eff 15 (⟨(some 146),(.call 203 [(.t 141),(.t 145)]),some (140,true)⟩) [],.op 16 (o 147 (.pick (.t 140) (.t 146) (.k (.c (.bool false))))),.op 17 (o 130 (.mv (.t 147)))])
 (.keep [1,3,6,7,10,130] (.cond (.t 130) (.seq (.ops [o 6 (.mv (ki (-1)))])
 .ret)
 (.seq (.ops [o 149 (.fa 0 (.t 7)),o 150 (.ld (.t 149)),o 151 (.bin 0 .eql (.t 150) (ki 13)),o 152 (.mv (.t 151)),⟨(some 153),(.ld (.t 3)),some (152,true)⟩,⟨(some 154),(.nilck (.t 153)),some (152,true)⟩,⟨(some 155),(.fa 0 (.t 154)),some (152,true)⟩,⟨(some 156),(.ld (.t 155)),some (152,true)⟩,⟨(some 157),(.mv (.t 1)),some (152,true)⟩,⟨(some 158),(.bin 0 .add (.t 157) (ki 1)),some (152,true)⟩,⟨(some 159),(.ixa 6 (.t 156) (.t 158)),some (152,true)⟩,⟨(some 160),(.fa 0 (.t 159)),some (152,true)⟩,⟨(some 161),(.ld (.t 160)),some (152,true)⟩,⟨(some 162),(.bin 0 .neq (.t 161) (ki 19)),some (152,true)⟩,o 163 (.pick (.t 152) (.t 162) (.k (.c (.bool false)))),o 164 (.mv (.t 163)),⟨(some 165),(.ld (.t 3)),some (164,true)⟩,⟨(some 166),(.nilck (.t 165)),some (164,true)⟩,⟨(some 167),(.fa 0 (.t 166)),some (164,true)⟩,⟨(some 168),(.ld (.t 167)),some (164,true)⟩,⟨(some 169),(.mv (.t 1)),some (164,true)⟩,⟨(some 170),(.bin 0 .add (.t 169) (ki 1)),some (164,true)⟩,⟨(some 171),(.ixa 6 (.t 168) (.t 170)),some (164,true)⟩,⟨(some 172),(.fa 0 (.t 171)),some (164,true)⟩,⟨(some 173),(.ld (.t 172)),some (164,true)⟩,⟨(some 174),(.bin 0 .neq (.t 173) (ki 18)),some (164,true)⟩,o 175 (.pick (.t 164) (.t 174) (.k (.c (.bool false)))),o 148 (.mv (.t 175))])
 (.keep [6,10,148] (.cond (.t 148) (.seq (.ops [o 6 (.mv (ki (-1)))])
 .ret)
 .skip))))))))))
 (.seq (.ops [o 176 (.mv (.t 10)),o 6 (.mv (.t 176))])
 .ret))))))))))))))))),
 [.tmp 6]⟩
def F166 : AFun := ⟨2,
 (.seq (.ops [o 4 (.mv (.k (.c (.int .u64 0)))),o 5 (.mv (.k (.c (.int .u64 0))))])
 (.seq (.cond (.k (.c (.bool false))) (.seq (.ops [o 11 (.mv (.t 0)),o 12 (.convi .u32 (.t 11)),o 13 (.mv (.t 1)),o 14 (.convi .u32 (.t 13)),o 15 (.call 204 [(.t 12),(.t 14)]),o 10 (.mv (.t 15)),o 16 (.ext 0 (.t 10)),o 17 (.ext 1 (.t 10)),o 6 (.mv (.t 16)),o 7 (.mv (.t 17))])
 (.seq (.ops [o 18 (.mv (.t 6)),o 19 (.convi .u64 (.t 18)),o 20 (.mv (.t 7)),o 21 (.convi .u64 (.t 20)),o 4 (.mv (.t 19)),o 5 (.mv (.t 21))])
 .ret))
 .skip)
 (.keep [0,1] (.seq (.ops [o 23 (.mv (.t 0)),o 24 (.mv (.t 1)),o 25 (.call 205 [(.t 23),(.t 24)]),o 22 (.mv (.t 25)),o 26 (.ext 0 (.t 22)),o 27 (.ext 1 (.t 22)),o 8 (.mv (.t 26)),o 9 (.mv (.t 27))])
 (.seq (.ops [o 28 (.mv (.t 8)),o 29 (.mv (.t 9)),o 4 (.mv (.t 28)),o 5 (.mv (.t 29))])
 .ret))))),
 [.tmp 4,.tmp 5]⟩
def F167 : AFun := ⟨2,
 (.seq (.ops [o 2 (.box (.t 0)),o 4 (.alloc [(.int .i64 0),(.int .i64 0)])])
 (.seq (.dops [.op 0 (o 5 (.ld (.t 2))),.op 1 (o 6 (.ld (.t 2))),.op 2 (o 7 (.nilck (.t 6))),.op 3 (o 8 (.fa 9 (.t 7))),.op 4 (o 9 (.ld (.t 8))),.eff 5 (o 10 .mkm) [o 5 (.ld (.t 2)),o 6 (.ld (.t 2)),o 9 (.ld (.t 8))],.eff 6 (o 11 (.mks [.nilmap] 1 [(0,1,(.t 10))])) [o 5 (.ld (.t 2)),o 6 (.ld (.t 2)),o 9 (.ld (.t 8))],.eff 7 (o 12 (.app 1 8 (.t 9) (.t 11))) [o 5 (.ld (.t 2))],.op 8 (o 13 (.nilck (.t 5))),.op 9 (o 14 (.fa 9 (.t 13))),.eff 10 (e (.st 1 (.t 14) (.t 12))) []])
 (.keep [1,2,4] (.seq (.ops [o 15 (.mkf 206 [] [(.t 2)]),e (.dfr (.t 15))])
 (.seq (.ops [o 16 (.mv (.t 1)),o 17 (.callv (.t 16) []),e (.st 2 (.t 4) (.t 17))])
 .ret))))),
 [.celln 4 2]⟩
def F168 : AFun := ⟨2,
 (.seq (.ops [o 2 (.alloc [(.int .i64 0),(.int .i64 0)])])
 (.seq (.ops [o 3 (.ld (.t 0)),o 4 (.ld (.t 1)),o 5 (.call 169 [(.t 3),(.t 4)]),e (.st 2 (.t 2) (.t 5))])
 .ret)),
 [.celln 2 2]⟩
def F169 : AFun := ⟨2,
 (.seq (.ops [o 2 (.box (.t 0)),o 4 (.alloc [(.int .i64 0),(.int .i64 0)])])
 (.seq (.ops [o 10 (.ld (.t 2)),o 11 (.mv (.t 1)),o 12 (.call 207 [(.t 10),(.t 11)]),o 5 (.alloc [(.int .i64 0),(.str (bs [])),(.str (bs [])),(.int .i32 0),.nilslice,(.int .i64 0)]),e (.st 6 (.t 5) (.t 12))])
 (.seq (.seq (.ops [o 13 (.fa 0 (.t 5)),o 14 (.ld (.t 13))])
 (.block 0 (.seq (.ops [o 16 (.bin 0 .eql (.t 14) (ki 1)),o 15 (.mv (.t 16))])
 (.cond (.t 15) (.seq (.ops [o 17 (.ld (.t 2)),o 18 (.fa 4 (.t 5)),o 19 (.ld (.t 18)),o 20 (.call 208 [(.t 17),(.t 19)]),o 6 (.alloc [(.int .i64 0),(.int .i64 0)]),e (.st 2 (.t 6) (.t 20))])
 (.keep [2,4,6] (.seq (.seq (.ops [o 21 (.fa 0 (.t 6)),o 22 (.ld (.t 21)),o 23 (.bin 0 .eql (.t 22) (ki 0)),o 24 (.mv (.t 23)),⟨(some 25),(.ld (.t 2)),some (24,true)⟩,⟨(some 26),(.nilck (.t 25)),some (24,true)⟩,⟨(some 27),(.fa 0 (.t 26)),some (24,true)⟩,⟨(some 28),(.fa 8 (.t 27)),some (24,true)⟩,⟨(some 29),(.ld (.t 28)),some (24,true)⟩,⟨(some 30),(.bin 0 .eql (.t 29) (ki 0)),some (24,true)⟩,o 31 (.pick (.t 24) (.t 30) (.k (.c (.bool false))))])
 (.cond (.t 31) (.ops [o 32 (.fa 0 (.t 6)),e (.st 1 (.t 32) (ki 243))])
 .skip))
 (.keep [4,6] (.seq (.ops [o 33 (.ldn 2 (.t 6)),e (.st 2 (.t 4) (.t 33))])
 .ret)))))
 (.seq (.ops [o 35 (.bin 0 .eql (.t 14) (ki 2)),o 34 (.mv (.t 35))])
 (.keep [1,2,4,5,14,34] (.cond (.t 34) (.seq (.seq (.ops [o 36 (.fa 4 (.t 5)),o 37 (.ld (.t 36)),o 38 (.len 1 (.t 37)),o 39 (.mv (ki 0))])
 (.block 1 (.loop [1,2,4,37,38,39] (.seq (.ops [o 40 (.bin 0 .lss (.t 39) (.t 38))])
 (.seq (.cond (.t 40) .skip
 (.exit 1))
 (.seq (.block 2 (.seq (.ops [o 41 (.ixa 1 (.t 37) (.t 39)),o 42 (.ld (.t 41)),o 8 (.mv (.t 42))])
 (.seq (.ops [o 43 (.ld (.t 2)),o 44 (.mv (.t 8)),o 45 (.mv (.t 1)),o 46 (.call 209 [(.t 43),(.t 44),(.t 45)]),o 9 (.alloc [(.int .i64 0),(.int .i64 0)]),e (.st 2 (.t 9) (.t 46))])
 (.keep [1,2,4,9,37,38,39] (.seq (.ops [o 47 (.fa 0 (.t 9)),o 48 (.ld (.t 47)),o 49 (.bin 0 .neq (.t 48) (ki 0))])
 (.cond (.t 49) (.seq (.ops [o 50 (.ldn 2 (.t 9)),e (.st 2 (.t 4) (.t 50))])
 .ret)
 .skip))))))
 (.ops [o 51 (.bin 0 .add (.t 39) (ki 1)),o 39 (.mv (.t 51))])))))))
 (.seq (.ops [o 52 (.agg [(.int .i64 0),(.int .i64 0)] []),e (.st 2 (.t 4) (.t 52))])
 .ret))
 (.seq (.ops [o 54 (.bin 0 .eql (.t 14) (ki 4)),o 53 (.mv (.t 54))])
 (.cond (.t 53) (.seq (.ops [o 55 (.ld (.t 2)),o 56 (.mv (.t 1)),o 57 (.call 210 [(.t 55),(.t 56)]),e (.st 2 (.t 4) (.t 57))])
 .ret)
 (.seq (.ops [o 59 (.bin 0 .eql (.t 14) (ki 6)),o 58 (.mv (.t 59))])
 (.cond (.t 58) (.seq (.ops [o 60 (.ld (.t 2)),o 61 (.mkf 211 [] [(.t 2),(.t 5)]),o 62 (.call 167 [(.t 60),(.t 61)]),e (.st 2 (.t 4) (.t 62))])
 .ret)
 (.seq (.seq (.ops [o 64 (.bin 0 .eql (.t 14) (ki 7)),o 63 (.mv (.t 64))])
 (.cond (.t 63) .skip
 (.seq (.ops [o 65 (.bin 0 .eql (.t 14) (ki 8)),o 63 (.mv (.t 65))])
 (.cond (.t 63) .skip
 (.seq (.ops [o 66 (.bin 0 .eql (.t 14) (ki 9)),o 63 (.mv (.t 66))])
 (.keep [1,2,4,14,63] (.cond (.t 63) .skip
 (.seq (.ops [o 67 (.bin 0 .eql (.t 14) (ki 10)),o 63 (.mv (.t 67))])
 (.cond (.t 63) .skip
 (.seq (.ops [o 68 (.bin 0 .eql (.t 14) (ki 11)),o 63 (.mv (.t 68))])
 (.cond (.t 63) .skip
 (.ops [o 69 (.bin 0 .eql (.t 14) (ki 12)),o 63 (.mv (.t 69))]))))))))))))
 (.cond (.t 63) (.seq (.ops [o 70 (.ld (.t 2)),o 71 (.mv (.t 1)),o 72 (.call 212 [(.t 70),(.t 71)]),e (.st 2 (.t 4) (.t 72))])
 .ret)
 .skip)))))))))))))
 (.keep [1,2,4] (.seq (.ops [o 73 (.ld (.t 2)),o 74 (.mv (.t 1)),o 75 (.call 213 [(.t 73),(.t 74)]),e (.st 2 (.t 4) (.t 75))])
 .ret))))),
 [.celln 4 2]⟩
end Go.Proofs.YtjlebgfbohihfaaGreat.Am
