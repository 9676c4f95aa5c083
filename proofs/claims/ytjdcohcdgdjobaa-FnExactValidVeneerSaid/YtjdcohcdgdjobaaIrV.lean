/- The functions that some rows reach, turned; no conditions. -/
import Derived.Test.YtjdcohcdgdjobaaEv3
import Derived.KernelRfl
import Derived.Test.YtjdcohcdgdjobaaProg
namespace Go.Proofs.Ytjdcohcdgdjobaa.walkV
open Go Go.Proofs.Ytjdcohcdgdjobaa.Ev
def i9 : Ev.Fn := ⟨1, 25, [.tmp 2],
 (.seq
  (.reg false [⟨2, .mv (.k (.sc (.bool false))), none, false⟩])
  (.seq
   (.reg false [⟨8, .mv (.t 0), none, false⟩,
     ⟨9, .ca (.k (.cl 32 [])) [(.t 8)], none, false⟩,
     ⟨7, .mv (.t 9), none, false⟩,
     ⟨10, .xt (.t 7) 0, none, false⟩,
     ⟨11, .xt (.t 7) 1, none, false⟩,
     ⟨3, .mv (.t 10), none, false⟩,
     ⟨4, .mv (.t 11), none, false⟩])
   (.seq
    (.reg false [⟨13, .mv (.t 0), none, false⟩,
      ⟨14, .ca (.k (.cl 33 [])) [(.t 13)], none, false⟩,
      ⟨12, .mv (.t 14), none, false⟩,
      ⟨15, .xt (.t 12) 0, none, false⟩,
      ⟨16, .xt (.t 12) 1, none, false⟩,
      ⟨5, .mv (.t 15), none, false⟩,
      ⟨6, .mv (.t 16), none, false⟩])
    (.seq
     (.seq
      (.reg false [⟨17, .mv (.t 5), none, false⟩,
        ⟨18, .mv (.t 3), none, false⟩,
        ⟨19, .ar .neq false (.t 17) (.t 18), none, false⟩,
        ⟨20, .mv (.t 19), none, false⟩,
        ⟨21, .mv (.t 6), (some (20, false)), false⟩,
        ⟨22, .mv (.t 4), (some (20, false)), false⟩,
        ⟨23, .ar .neq false (.t 21) (.t 22), (some (20, false)), false⟩,
        ⟨24, .pk (.t 20) (.k (.sc (.bool true))) (.t 23), none, false⟩])
      (.ite (.t 24)
       (.seq
        (.reg false [⟨2, .mv (.k (.sc (.bool false))), none, false⟩])
        .ret)
       .skip))
     (.seq
      (.reg false [⟨2, .mv (.k (.sc (.bool true))), none, false⟩])
      .ret)))))⟩
def i10 : Ev.Fn := ⟨1, 20, [.tmp 2],
 (.seq
  (.reg false [⟨1, .bx (.t 0), none, false⟩,
    ⟨2, .mv (.k (.sc (.bool false))), none, false⟩])
  (.seq
   (.reg false [⟨3, .mv (.k (.sc (.int .i64 1048576))), none, false⟩])
   (.seq
    (.reg false [⟨6, .ld 3 true (.t 1), none, false⟩,
      ⟨7, .mv (.t 3), none, false⟩,
      ⟨8, .ca (.k (.cl 34 [])) [(.t 6), (.t 7)], none, false⟩,
      ⟨3, .mv (.t 8), none, false⟩])
    (.seq
     (.seq
      (.reg false [⟨9, .mv (.t 3), none, false⟩,
        ⟨10, .ar .lss false (.t 9) (.k (.sc (.int .i64 0))), none, false⟩])
      (.ite (.t 10)
       (.seq
        (.reg false [⟨2, .mv (.k (.sc (.bool true))), none, false⟩])
        .ret)
       .skip))
     (.seq
      (.reg false [⟨11, .ld 3 true (.t 1), none, false⟩,
        ⟨12, .ca (.k (.cl 36 [])) [(.t 11)], none, false⟩,
        ⟨13, .ca (.k (.cl 35 [])) [(.t 12)], none, false⟩,
        ⟨4, .mv (.t 13), none, false⟩])
      (.seq
       (.reg false [⟨14, .ld 3 true (.t 1), none, false⟩,
         ⟨15, .ca (.k (.cl 36 [])) [(.t 14)], none, false⟩,
         ⟨16, .ca (.k (.cl 37 [])) [(.t 15)], none, false⟩,
         ⟨5, .mv (.t 16), none, false⟩])
       (.seq
        (.seq
         (.reg false [⟨17, .mv (.t 5), none, false⟩,
           ⟨18, .mv (.t 4), none, false⟩,
           ⟨19, .ar .neq true (.t 17) (.t 18), none, false⟩])
         (.ite (.t 19)
          (.seq
           (.reg false [⟨2, .mv (.k (.sc (.bool false))), none, false⟩])
           .ret)
          .skip))
        (.seq
         (.reg false [⟨2, .mv (.k (.sc (.bool true))), none, false⟩])
         .ret))))))))⟩
def i13 : Ev.Fn := ⟨2, 38, [.tmp 4],
 (.seq
  (.reg false [⟨2, .bx (.t 0), none, false⟩,
    ⟨4, .mv (.k (.sc (.bool false))), none, false⟩])
  (.seq
   (.reg false [⟨5, .mv (.k (.sc (.int .i64 1048576))), none, false⟩])
   (.seq
    (.reg false [⟨10, .ld 3 true (.t 2), none, false⟩,
      ⟨11, .mv (.t 5), none, false⟩,
      ⟨12, .ca (.k (.cl 34 [])) [(.t 10), (.t 11)], none, false⟩,
      ⟨5, .mv (.t 12), none, false⟩])
    (.seq
     (.seq
      (.reg false [⟨13, .mv (.t 5), none, false⟩,
        ⟨14, .ar .lss false (.t 13) (.k (.sc (.int .i64 0))), none, false⟩])
      (.ite (.t 14)
       (.seq
        (.reg false [⟨4, .mv (.k (.sc (.bool true))), none, false⟩])
        .ret)
       .skip))
     (.seq
      (.reg false [⟨16, .ld 3 true (.t 2), none, false⟩,
        ⟨17, .ca (.k (.cl 36 [])) [(.t 16)], none, false⟩,
        ⟨18, .mv (.t 1), none, false⟩,
        ⟨19, .ca (.k (.cl 45 [])) [(.t 17), (.t 18)], none, false⟩,
        ⟨15, .mv (.t 19), none, false⟩,
        ⟨20, .xt (.t 15) 0, none, false⟩,
        ⟨21, .xt (.t 15) 1, none, false⟩,
        ⟨6, .al [(.sc (.string ⟨#[]⟩)), (.sc (.int .i64 0)), (.sc (.int .i64 0))], none, false⟩,
        ⟨0, .so 3 (.t 6) (.t 20), none, true⟩,
        ⟨7, .mv (.t 21), none, false⟩])
      (.seq
       (.reg false [⟨23, .ld 3 true (.t 2), none, false⟩,
         ⟨24, .ca (.k (.cl 36 [])) [(.t 23)], none, false⟩,
         ⟨25, .mv (.t 1), none, false⟩,
         ⟨26, .ca (.k (.cl 46 [])) [(.t 24), (.t 25)], none, false⟩,
         ⟨22, .mv (.t 26), none, false⟩,
         ⟨27, .xt (.t 22) 0, none, false⟩,
         ⟨28, .xt (.t 22) 1, none, false⟩,
         ⟨8, .al [(.sc (.string ⟨#[]⟩)), (.sc (.int .i64 0)), (.sc (.int .i64 0))], none, false⟩,
         ⟨0, .so 3 (.t 8) (.t 27), none, true⟩,
         ⟨9, .mv (.t 28), none, false⟩])
       (.seq
        (.seq
         (.reg false [⟨29, .ld 3 true (.t 8), none, false⟩,
           ⟨30, .ld 3 true (.t 6), none, false⟩,
           ⟨31, .ca (.k (.cl 47 [])) [(.t 29), (.t 30)], none, false⟩,
           ⟨32, .nt (.t 31), none, false⟩,
           ⟨33, .mv (.t 32), none, false⟩,
           ⟨34, .mv (.t 9), (some (33, false)), false⟩,
           ⟨35, .mv (.t 7), (some (33, false)), false⟩,
           ⟨36, .ar .neq false (.t 34) (.t 35), (some (33, false)), false⟩,
           ⟨37, .pk (.t 33) (.k (.sc (.bool true))) (.t 36), none, false⟩])
         (.ite (.t 37)
          (.seq
           (.reg false [⟨4, .mv (.k (.sc (.bool false))), none, false⟩])
           .ret)
          .skip))
        (.seq
         (.reg false [⟨4, .mv (.k (.sc (.bool true))), none, false⟩])
         .ret))))))))⟩
def i14 : Ev.Fn := ⟨2, 44, [.tmp 4],
 (.seq
  (.reg false [⟨2, .bx (.t 0), none, false⟩,
    ⟨3, .bx (.t 1), none, false⟩,
    ⟨4, .mv (.k (.sc (.bool false))), none, false⟩])
  (.seq
   (.reg false [⟨5, .mv (.k (.sc (.int .i64 1048576))), none, false⟩])
   (.seq
    (.reg false [⟨10, .ld 3 true (.t 2), none, false⟩,
      ⟨11, .mv (.t 5), none, false⟩,
      ⟨12, .ca (.k (.cl 34 [])) [(.t 10), (.t 11)], none, false⟩,
      ⟨5, .mv (.t 12), none, false⟩])
    (.seq
     (.seq
      (.reg false [⟨13, .mv (.t 5), none, false⟩,
        ⟨14, .ar .lss false (.t 13) (.k (.sc (.int .i64 0))), none, false⟩])
      (.ite (.t 14)
       (.seq
        (.reg false [⟨4, .mv (.k (.sc (.bool true))), none, false⟩])
        .ret)
       .skip))
     (.seq
      (.reg false [⟨15, .ld 3 true (.t 3), none, false⟩,
        ⟨16, .mv (.t 5), none, false⟩,
        ⟨17, .ca (.k (.cl 34 [])) [(.t 15), (.t 16)], none, false⟩,
        ⟨5, .mv (.t 17), none, false⟩])
      (.seq
       (.seq
        (.reg false [⟨18, .mv (.t 5), none, false⟩,
          ⟨19, .ar .lss false (.t 18) (.k (.sc (.int .i64 0))), none, false⟩])
        (.ite (.t 19)
         (.seq
          (.reg false [⟨4, .mv (.k (.sc (.bool true))), none, false⟩])
          .ret)
         .skip))
       (.seq
        (.reg true [⟨21, .ld 3 true (.t 2), none, false⟩,
          ⟨22, .ca (.k (.cl 36 [])) [(.t 21)], none, false⟩,
          ⟨23, .ld 3 true (.t 3), none, false⟩,
          ⟨24, .ca (.k (.cl 36 [])) [(.t 23)], none, false⟩,
          ⟨25, .ca (.k (.cl 48 [])) [(.t 22), (.t 24)], none, false⟩,
          ⟨20, .mv (.t 25), none, false⟩,
          ⟨26, .xt (.t 20) 0, none, false⟩,
          ⟨27, .xt (.t 20) 1, none, false⟩,
          ⟨6, .mv (.t 26), none, false⟩,
          ⟨7, .mv (.t 27), none, false⟩])
        (.seq
         (.reg true [⟨29, .ld 3 true (.t 2), none, false⟩,
           ⟨30, .ca (.k (.cl 36 [])) [(.t 29)], none, false⟩,
           ⟨31, .ld 3 true (.t 3), none, false⟩,
           ⟨32, .ca (.k (.cl 36 [])) [(.t 31)], none, false⟩,
           ⟨33, .ca (.k (.cl 49 [])) [(.t 30), (.t 32)], none, false⟩,
           ⟨28, .mv (.t 33), none, false⟩,
           ⟨34, .xt (.t 28) 0, none, false⟩,
           ⟨35, .xt (.t 28) 1, none, false⟩,
           ⟨8, .mv (.t 34), none, false⟩,
           ⟨9, .mv (.t 35), none, false⟩])
         (.seq
          (.seq
           (.reg false [⟨36, .mv (.t 8), none, false⟩,
             ⟨37, .mv (.t 6), none, false⟩,
             ⟨38, .ar .neq false (.t 36) (.t 37), none, false⟩,
             ⟨39, .mv (.t 38), none, false⟩,
             ⟨40, .mv (.t 9), (some (39, false)), false⟩,
             ⟨41, .mv (.t 7), (some (39, false)), false⟩,
             ⟨42, .ar .neq false (.t 40) (.t 41), (some (39, false)), false⟩,
             ⟨43, .pk (.t 39) (.k (.sc (.bool true))) (.t 42), none, false⟩])
           (.ite (.t 43)
            (.seq
             (.reg false [⟨4, .mv (.k (.sc (.bool false))), none, false⟩])
             .ret)
            .skip))
          (.seq
           (.reg false [⟨4, .mv (.k (.sc (.bool true))), none, false⟩])
           .ret))))))))))⟩
def i21 : Ev.Fn := ⟨2, 26, [.tmp 4, .tmp 5],
 (.seq
  (.reg false [⟨4, .mv (.k (.sc (.int .i64 0))), none, false⟩,
    ⟨5, .mv (.k (.sc (.int .i64 0))), none, false⟩])
  (.seq
   (.seq
    (.reg false [⟨7, .mv (.t 0), none, false⟩,
      ⟨8, .ca (.k (.cl 51 [])) [(.t 7), (.k (.sc (.int .i64 0))), (.k (.sc (.int .i64 179)))], none, false⟩,
      ⟨9, .nt (.t 8), none, false⟩,
      ⟨10, .mv (.t 9), none, false⟩,
      ⟨11, .mv (.t 1), (some (10, false)), false⟩,
      ⟨12, .ca (.k (.cl 51 [])) [(.t 11), (.k (.sc (.int .i64 0))), (.k (.sc (.int .i64 179)))], (some (10, false)), false⟩,
      ⟨13, .nt (.t 12), (some (10, false)), false⟩,
      ⟨14, .pk (.t 10) (.k (.sc (.bool true))) (.t 13), none, false⟩])
    (.ite (.t 14)
     (.seq
      (.reg false [⟨4, .mv (.k (.sc (.int .i64 0))), none, false⟩,
        ⟨5, .mv (.k (.sc (.int .i64 2))), none, false⟩])
      .ret)
     .skip))
   (.seq
    (.reg false [⟨15, .mv (.t 0), none, false⟩,
      ⟨16, .mv (.t 1), none, false⟩,
      ⟨17, .ar .sub false (.t 15) (.t 16), none, false⟩,
      ⟨18, .mv (.t 1), none, false⟩,
      ⟨19, .mv (.t 0), none, false⟩,
      ⟨20, .ar .sub false (.t 18) (.t 19), none, false⟩,
      ⟨21, .mx (.t 17) (.t 20), none, false⟩,
      ⟨6, .mv (.t 21), none, false⟩])
    (.seq
     (.reg false [⟨22, .mv (.t 6), none, false⟩,
       ⟨23, .mv (.t 6), none, false⟩,
       ⟨24, .ar .sub false (.k (.sc (.int .i64 180))) (.t 23), none, false⟩,
       ⟨25, .mn (.t 22) (.t 24), none, false⟩,
       ⟨4, .mv (.t 25), none, false⟩,
       ⟨5, .mv (.k (.sc (.int .i64 0))), none, false⟩])
     .ret))))⟩
def i26 : Ev.Fn := ⟨0, 2, [.tmp 0],
 (.seq
  (.reg false [⟨0, .mv (.k .nl), none, false⟩])
  (.seq
   (.reg false [⟨1, .bs 9 1 [(.sc (.string ⟨#[]⟩))] 10 [(0, (.k (.sc (.string ⟨#[97, 115, 104]⟩)))), (1, (.k (.sc (.string ⟨#[98, 101, 101, 99, 104]⟩)))), (2, (.k (.sc (.string ⟨#[98, 105, 114, 99, 104]⟩)))), (3, (.k (.sc (.string ⟨#[99, 104, 101, 114, 114, 121]⟩)))), (4, (.k (.sc (.string ⟨#[101, 98, 111, 110, 121]⟩)))), (5, (.k (.sc (.string ⟨#[104, 111, 108, 108, 121]⟩)))), (6, (.k (.sc (.string ⟨#[109, 97, 112, 108, 101]⟩)))), (7, (.k (.sc (.string ⟨#[111, 97, 107]⟩)))), (8, (.k (.sc (.string ⟨#[114, 111, 115, 101, 119, 111, 111, 100]⟩)))), (9, (.k (.sc (.string ⟨#[119, 97, 108, 110, 117, 116]⟩))))], none, false⟩,
     ⟨0, .mv (.t 1), none, false⟩])
   .ret))⟩
def i31 : Ev.Fn := ⟨1, 27, [.tmp 2, .tmp 3, .tmp 4, .tmp 5],
 (.seq
  (.reg false [⟨2, .mv (.k (.sc (.int .i64 0))), none, false⟩,
    ⟨3, .mv (.k (.sc (.int .i64 0))), none, false⟩,
    ⟨4, .mv (.k (.sc (.int .i64 0))), none, false⟩,
    ⟨5, .mv (.k (.sc (.int .i64 0))), none, false⟩])
  (.seq
   (.seq
    (.reg false [⟨6, .mv (.t 0), none, false⟩])
    (.block 0
     (.seq
      (.reg false [⟨8, .ar .eql false (.t 6) (.k (.sc (.string ⟨#[97, 115, 104]⟩))), none, false⟩,
        ⟨7, .mv (.t 8), none, false⟩])
      (.ite (.t 7)
       (.seq
        (.reg false [⟨2, .mv (.k (.sc (.int .i64 20))), none, false⟩,
          ⟨3, .mv (.k (.sc (.int .i64 40))), none, false⟩,
          ⟨4, .mv (.k (.sc (.int .i64 310))), none, false⟩,
          ⟨5, .mv (.k (.sc (.int .i64 0))), none, false⟩])
        .ret)
       (.seq
        (.reg false [⟨10, .ar .eql false (.t 6) (.k (.sc (.string ⟨#[98, 101, 101, 99, 104]⟩))), none, false⟩,
          ⟨9, .mv (.t 10), none, false⟩])
        (.ite (.t 9)
         (.seq
          (.reg false [⟨2, .mv (.k (.sc (.int .i64 35))), none, false⟩,
            ⟨3, .mv (.k (.sc (.int .i64 45))), none, false⟩,
            ⟨4, .mv (.k (.sc (.int .i64 410))), none, false⟩,
            ⟨5, .mv (.k (.sc (.int .i64 0))), none, false⟩])
          .ret)
         (.seq
          (.reg false [⟨12, .ar .eql false (.t 6) (.k (.sc (.string ⟨#[98, 105, 114, 99, 104]⟩))), none, false⟩,
            ⟨11, .mv (.t 12), none, false⟩])
          (.ite (.t 11)
           (.seq
            (.reg false [⟨2, .mv (.k (.sc (.int .i64 15))), none, false⟩,
              ⟨3, .mv (.k (.sc (.int .i64 33))), none, false⟩,
              ⟨4, .mv (.k (.sc (.int .i64 280))), none, false⟩,
              ⟨5, .mv (.k (.sc (.int .i64 0))), none, false⟩])
            .ret)
           (.seq
            (.reg false [⟨14, .ar .eql false (.t 6) (.k (.sc (.string ⟨#[99, 104, 101, 114, 114, 121]⟩))), none, false⟩,
              ⟨13, .mv (.t 14), none, false⟩])
            (.ite (.t 13)
             (.seq
              (.reg false [⟨2, .mv (.k (.sc (.int .i64 50))), none, false⟩,
                ⟨3, .mv (.k (.sc (.int .i64 36))), none, false⟩,
                ⟨4, .mv (.k (.sc (.int .i64 240))), none, false⟩,
                ⟨5, .mv (.k (.sc (.int .i64 0))), none, false⟩])
              .ret)
             (.seq
              (.reg false [⟨16, .ar .eql false (.t 6) (.k (.sc (.string ⟨#[101, 98, 111, 110, 121]⟩))), none, false⟩,
                ⟨15, .mv (.t 16), none, false⟩])
              (.ite (.t 15)
               (.seq
                (.reg false [⟨2, .mv (.k (.sc (.int .i64 95))), none, false⟩,
                  ⟨3, .mv (.k (.sc (.int .i64 85))), none, false⟩,
                  ⟨4, .mv (.k (.sc (.int .i64 270))), none, false⟩,
                  ⟨5, .mv (.k (.sc (.int .i64 0))), none, false⟩])
                .ret)
               (.seq
                (.reg false [⟨18, .ar .eql false (.t 6) (.k (.sc (.string ⟨#[104, 111, 108, 108, 121]⟩))), none, false⟩,
                  ⟨17, .mv (.t 18), none, false⟩])
                (.ite (.t 17)
                 (.seq
                  (.reg false [⟨2, .mv (.k (.sc (.int .i64 5))), none, false⟩,
                    ⟨3, .mv (.k (.sc (.int .i64 35))), none, false⟩,
                    ⟨4, .mv (.k (.sc (.int .i64 370))), none, false⟩,
                    ⟨5, .mv (.k (.sc (.int .i64 0))), none, false⟩])
                  .ret)
                 (.seq
                  (.reg false [⟨20, .ar .eql false (.t 6) (.k (.sc (.string ⟨#[109, 97, 112, 108, 101]⟩))), none, false⟩,
                    ⟨19, .mv (.t 20), none, false⟩])
                  (.ite (.t 19)
                   (.seq
                    (.reg false [⟨2, .mv (.k (.sc (.int .i64 10))), none, false⟩,
                      ⟨3, .mv (.k (.sc (.int .i64 42))), none, false⟩,
                      ⟨4, .mv (.k (.sc (.int .i64 290))), none, false⟩,
                      ⟨5, .mv (.k (.sc (.int .i64 0))), none, false⟩])
                    .ret)
                   (.seq
                    (.reg false [⟨22, .ar .eql false (.t 6) (.k (.sc (.string ⟨#[111, 97, 107]⟩))), none, false⟩,
                      ⟨21, .mv (.t 22), none, false⟩])
                    (.ite (.t 21)
                     (.seq
                      (.reg false [⟨2, .mv (.k (.sc (.int .i64 40))), none, false⟩,
                        ⟨3, .mv (.k (.sc (.int .i64 40))), none, false⟩,
                        ⟨4, .mv (.k (.sc (.int .i64 330))), none, false⟩,
                        ⟨5, .mv (.k (.sc (.int .i64 0))), none, false⟩])
                      .ret)
                     (.seq
                      (.reg false [⟨24, .ar .eql false (.t 6) (.k (.sc (.string ⟨#[114, 111, 115, 101, 119, 111, 111, 100]⟩))), none, false⟩,
                        ⟨23, .mv (.t 24), none, false⟩])
                      (.ite (.t 23)
                       (.seq
                        (.reg false [⟨2, .mv (.k (.sc (.int .i64 80))), none, false⟩,
                          ⟨3, .mv (.k (.sc (.int .i64 60))), none, false⟩,
                          ⟨4, .mv (.k (.sc (.int .i64 220))), none, false⟩,
                          ⟨5, .mv (.k (.sc (.int .i64 0))), none, false⟩])
                        .ret)
                       (.seq
                        (.reg false [⟨26, .ar .eql false (.t 6) (.k (.sc (.string ⟨#[119, 97, 108, 110, 117, 116]⟩))), none, false⟩,
                          ⟨25, .mv (.t 26), none, false⟩])
                        (.ite (.t 25)
                         (.seq
                          (.reg false [⟨2, .mv (.k (.sc (.int .i64 70))), none, false⟩,
                            ⟨3, .mv (.k (.sc (.int .i64 38))), none, false⟩,
                            ⟨4, .mv (.k (.sc (.int .i64 260))), none, false⟩,
                            ⟨5, .mv (.k (.sc (.int .i64 0))), none, false⟩])
                          .ret)
                         .skip))))))))))))))))))))))
   (.seq
    (.reg false [⟨2, .mv (.k (.sc (.int .i64 0))), none, false⟩,
      ⟨3, .mv (.k (.sc (.int .i64 0))), none, false⟩,
      ⟨4, .mv (.k (.sc (.int .i64 0))), none, false⟩,
      ⟨5, .mv (.k (.sc (.int .i64 3))), none, false⟩])
    .ret)))⟩
def b32_1 : IC :=
 (.seq
           (.seq
            (.reg false [⟨12, .mv (.t 6), none, false⟩,
              ⟨13, .mv (.t 4), none, false⟩,
              ⟨14, .ln false (.t 13), none, false⟩,
              ⟨15, .ar .lss false (.t 12) (.t 14), none, false⟩])
            (.ite (.t 15)
             .skip
             (.exit 0)))
           (.seq
            (.block 1
             (.seq
              (.reg true [⟨18, .mv (.t 4), none, false⟩,
                ⟨19, .mv (.t 6), none, false⟩,
                ⟨20, .ia 1 (.t 18) (.t 19), none, false⟩,
                ⟨21, .ld 1 false (.t 20), none, false⟩,
                ⟨22, .ia 1 (.t 21) (.k (.sc (.int .i64 0))), none, false⟩,
                ⟨23, .ld 1 false (.t 22), none, false⟩,
                ⟨24, .mv (.t 0), none, false⟩,
                ⟨25, .ar .sub false (.t 23) (.t 24), none, false⟩,
                ⟨26, .mv (.t 0), none, false⟩,
                ⟨27, .mv (.t 4), none, false⟩,
                ⟨28, .mv (.t 6), none, false⟩,
                ⟨29, .ia 1 (.t 27) (.t 28), none, false⟩,
                ⟨30, .ld 1 false (.t 29), none, false⟩,
                ⟨31, .ia 1 (.t 30) (.k (.sc (.int .i64 0))), none, false⟩,
                ⟨32, .ld 1 false (.t 31), none, false⟩,
                ⟨33, .ar .sub false (.t 26) (.t 32), none, false⟩,
                ⟨34, .ca (.k (.cl 65 [])) [(.t 25), (.t 33)], none, false⟩,
                ⟨7, .mv (.t 34), none, false⟩])
              (.seq
               (.reg true [⟨35, .mv (.t 7), none, false⟩,
                 ⟨36, .mv (.t 4), none, false⟩,
                 ⟨37, .mv (.t 5), none, false⟩,
                 ⟨38, .ia 1 (.t 36) (.t 37), none, false⟩,
                 ⟨39, .ld 1 false (.t 38), none, false⟩,
                 ⟨40, .ia 1 (.t 39) (.k (.sc (.int .i64 0))), none, false⟩,
                 ⟨41, .ld 1 false (.t 40), none, false⟩,
                 ⟨42, .mv (.t 0), none, false⟩,
                 ⟨43, .ar .sub false (.t 41) (.t 42), none, false⟩,
                 ⟨44, .mv (.t 0), none, false⟩,
                 ⟨45, .mv (.t 4), none, false⟩,
                 ⟨46, .mv (.t 5), none, false⟩,
                 ⟨47, .ia 1 (.t 45) (.t 46), none, false⟩,
                 ⟨48, .ld 1 false (.t 47), none, false⟩,
                 ⟨49, .ia 1 (.t 48) (.k (.sc (.int .i64 0))), none, false⟩,
                 ⟨50, .ld 1 false (.t 49), none, false⟩,
                 ⟨51, .ar .sub false (.t 44) (.t 50), none, false⟩,
                 ⟨52, .ca (.k (.cl 65 [])) [(.t 43), (.t 51)], none, false⟩,
                 ⟨53, .ar .lss false (.t 35) (.t 52), none, false⟩])
               (.ite (.t 53)
                (.reg false [⟨54, .mv (.t 6), none, false⟩,
                  ⟨5, .mv (.t 54), none, false⟩])
                .skip))))
            (.reg false [⟨16, .mv (.t 6), none, false⟩,
              ⟨17, .ar .add false (.t 16) (.k (.sc (.int .i64 1))), none, false⟩,
              ⟨6, .mv (.t 17), none, false⟩])))
def i32 : Ev.Fn := ⟨1, 59, [.tmp 2, .tmp 3],
 (.seq
  (.reg false [⟨2, .mv (.k (.sc (.string ⟨#[]⟩))), none, false⟩,
    ⟨3, .mv (.k (.sc (.int .i64 0))), none, false⟩])
  (.seq
   (.seq
    (.reg false [⟨8, .mv (.t 0), none, false⟩,
      ⟨9, .ca (.k (.cl 64 [])) [(.t 8), (.k (.sc (.int .i64 0))), (.k (.sc (.int .i64 100)))], none, false⟩,
      ⟨10, .nt (.t 9), none, false⟩])
    (.ite (.t 10)
     (.seq
      (.reg false [⟨2, .mv (.k (.sc (.string ⟨#[]⟩))), none, false⟩,
        ⟨3, .mv (.k (.sc (.int .i64 2))), none, false⟩])
      .ret)
     .skip))
   (.seq
    (.reg false [⟨11, .ca (.k (.cl 63 [])) [], none, false⟩,
      ⟨4, .mv (.t 11), none, false⟩])
    (.seq
     (.reg false [⟨5, .mv (.k (.sc (.int .i64 0))), none, false⟩])
     (.seq
      (.seq
       (.reg false [⟨6, .mv (.k (.sc (.int .i64 1))), none, false⟩])
       (.cln [5] [2, 3]
        (.block 0
         (.loop [0, 4, 5, 6] b32_1))))
      (.seq
       (.reg false [⟨55, .ca (.k (.cl 60 [])) [], none, false⟩,
         ⟨56, .mv (.t 5), none, false⟩,
         ⟨57, .ia 1 (.t 55) (.t 56), none, false⟩,
         ⟨58, .ld 1 false (.t 57), none, false⟩,
         ⟨2, .mv (.t 58), none, false⟩,
         ⟨3, .mv (.k (.sc (.int .i64 0))), none, false⟩])
       .ret))))))⟩
def b33_1 : IC :=
 (.seq
          (.reg false [⟨17, .ar .lss false (.t 16) (.t 15), none, false⟩])
          (.seq
           (.ite (.t 17)
            .skip
            (.exit 0))
           (.seq
            (.block 1
             (.seq
              (.reg false [⟨18, .ia 1 (.t 14) (.t 16), none, false⟩,
                ⟨19, .ld 1 false (.t 18), none, false⟩,
                ⟨7, .mv (.t 19), none, false⟩])
              (.seq
               (.reg false [⟨21, .mv (.t 7), none, false⟩,
                 ⟨22, .ca (.k (.cl 66 [])) [(.t 21)], none, false⟩,
                 ⟨20, .mv (.t 22), none, false⟩,
                 ⟨23, .xt (.t 20) 0, none, false⟩,
                 ⟨24, .xt (.t 20) 1, none, false⟩,
                 ⟨8, .mv (.t 23), none, false⟩,
                 ⟨9, .mv (.t 24), none, false⟩])
               (.seq
                (.reg false [⟨25, .mv (.t 8), none, false⟩,
                  ⟨26, .mv (.t 0), none, false⟩,
                  ⟨27, .ar .sub false (.t 25) (.t 26), none, false⟩,
                  ⟨28, .mv (.t 0), none, false⟩,
                  ⟨29, .mv (.t 8), none, false⟩,
                  ⟨30, .ar .sub false (.t 28) (.t 29), none, false⟩,
                  ⟨31, .mx (.t 27) (.t 30), none, false⟩,
                  ⟨10, .mv (.t 31), none, false⟩])
                (.seq
                 (.reg false [⟨32, .mv (.t 4), none, false⟩,
                   ⟨33, .ar .eql false (.t 32) (.k (.sc (.string ⟨#[]⟩))), none, false⟩,
                   ⟨34, .mv (.t 33), none, false⟩,
                   ⟨35, .mv (.t 10), (some (34, false)), false⟩,
                   ⟨36, .mv (.t 5), (some (34, false)), false⟩,
                   ⟨37, .ar .lss false (.t 35) (.t 36), (some (34, false)), false⟩,
                   ⟨38, .pk (.t 34) (.k (.sc (.bool true))) (.t 37), none, false⟩])
                 (.ite (.t 38)
                  (.reg false [⟨39, .mv (.t 7), none, false⟩,
                    ⟨40, .mv (.t 10), none, false⟩,
                    ⟨4, .mv (.t 39), none, false⟩,
                    ⟨5, .mv (.t 40), none, false⟩])
                  .skip))))))
            (.reg false [⟨41, .ar .add false (.t 16) (.k (.sc (.int .i64 1))), none, false⟩,
              ⟨16, .mv (.t 41), none, false⟩]))))
def i33 : Ev.Fn := ⟨1, 43, [.tmp 2, .tmp 3],
 (.seq
  (.reg false [⟨2, .mv (.k (.sc (.string ⟨#[]⟩))), none, false⟩,
    ⟨3, .mv (.k (.sc (.int .i64 0))), none, false⟩])
  (.seq
   (.seq
    (.reg false [⟨11, .mv (.t 0), none, false⟩,
      ⟨12, .ca (.k (.cl 51 [])) [(.t 11), (.k (.sc (.int .i64 0))), (.k (.sc (.int .i64 100)))], none, false⟩,
      ⟨13, .nt (.t 12), none, false⟩])
    (.ite (.t 13)
     (.seq
      (.reg false [⟨2, .mv (.k (.sc (.string ⟨#[]⟩))), none, false⟩,
        ⟨3, .mv (.k (.sc (.int .i64 2))), none, false⟩])
      .ret)
     .skip))
   (.seq
    (.reg false [⟨4, .mv (.k (.sc (.string ⟨#[]⟩))), none, false⟩,
      ⟨5, .mv (.k (.sc (.int .i64 0))), none, false⟩])
    (.seq
     (.seq
      (.reg false [⟨14, .ca (.k (.cl 26 [])) [], none, false⟩,
        ⟨15, .ln false (.t 14), none, false⟩,
        ⟨16, .mv (.k (.sc (.int .i64 0))), none, false⟩])
      (.cln [4] [2, 3]
       (.block 0
        (.loop [0, 4, 5, 14, 15, 16] b33_1))))
     (.seq
      (.reg false [⟨42, .mv (.t 4), none, false⟩,
        ⟨2, .mv (.t 42), none, false⟩,
        ⟨3, .mv (.k (.sc (.int .i64 0))), none, false⟩])
      .ret)))))⟩
def i34 : Ev.Fn := ⟨2, 13, [.tmp 4],
 (.seq
  (.reg false [⟨2, .bx (.t 0), none, false⟩,
    ⟨4, .mv (.k (.sc (.int .i64 0))), none, false⟩])
  (.seq
   (.reg false [⟨5, .mv (.t 1), none, false⟩,
     ⟨6, .fa 0 (.t 2), none, false⟩,
     ⟨7, .ld 1 false (.t 6), none, false⟩,
     ⟨8, .ln true (.t 7), none, false⟩,
     ⟨9, .ar .sub false (.t 5) (.t 8), none, false⟩,
     ⟨1, .mv (.t 9), none, false⟩])
   (.seq
    (.seq
     (.reg false [⟨10, .mv (.t 1), none, false⟩,
       ⟨11, .ar .lss false (.t 10) (.k (.sc (.int .i64 0))), none, false⟩])
     (.ite (.t 11)
      (.seq
       (.reg false [⟨4, .mv (.k (.sc (.int .i64 (-1)))), none, false⟩])
       .ret)
      .skip))
    (.seq
     (.reg false [⟨12, .mv (.t 1), none, false⟩,
       ⟨4, .mv (.t 12), none, false⟩])
     .ret))))⟩
def i35 : Ev.Fn := ⟨1, 4, [.tmp 2],
 (.seq
  (.reg false [⟨1, .bx (.t 0), none, false⟩,
    ⟨2, .mv (.k (.sc (.bool false))), none, false⟩])
  (.seq
   (.reg false [⟨3, .ca (.k (.cl 67 [])) [(.t 1)], none, false⟩,
     ⟨2, .mv (.t 3), none, false⟩])
   .ret))⟩
def i36 : Ev.Fn := ⟨1, 14, [.cell 2 3 true],
 (.seq
  (.reg false [⟨1, .bx (.t 0), none, false⟩,
    ⟨2, .al [(.sc (.string ⟨#[]⟩)), (.sc (.int .i64 0)), (.sc (.int .i64 0))], none, false⟩])
  (.seq
   (.reg false [⟨3, .al [(.sc (.string ⟨#[]⟩)), (.sc (.int .i64 0)), (.sc (.int .i64 0))], none, false⟩])
   (.seq
    (.reg false [⟨4, .fa 0 (.t 1), none, false⟩,
      ⟨5, .ld 1 false (.t 4), none, false⟩,
      ⟨6, .fa 0 (.t 3), none, false⟩,
      ⟨0, .so 1 (.t 6) (.t 5), none, true⟩])
    (.seq
     (.reg false [⟨7, .fa 1 (.t 1), none, false⟩,
       ⟨8, .ld 1 false (.t 7), none, false⟩,
       ⟨9, .fa 1 (.t 3), none, false⟩,
       ⟨0, .so 1 (.t 9) (.t 8), none, true⟩])
     (.seq
      (.reg false [⟨10, .fa 2 (.t 1), none, false⟩,
        ⟨11, .ld 1 false (.t 10), none, false⟩,
        ⟨12, .fa 2 (.t 3), none, false⟩,
        ⟨0, .so 1 (.t 12) (.t 11), none, true⟩])
      (.seq
       (.reg false [⟨13, .ld 3 true (.t 3), none, false⟩,
         ⟨0, .so 3 (.t 2) (.t 13), none, true⟩])
       .ret))))))⟩
def i37 : Ev.Fn := ⟨1, 29, [.tmp 2],
 (.seq
  (.reg false [⟨1, .bx (.t 0), none, false⟩,
    ⟨2, .mv (.k (.sc (.bool false))), none, false⟩])
  (.seq
   (.reg false [⟨6, .fa 0 (.t 1), none, false⟩,
     ⟨7, .ld 1 false (.t 6), none, false⟩,
     ⟨8, .ca (.k (.cl 66 [])) [(.t 7)], none, false⟩,
     ⟨5, .mv (.t 8), none, false⟩,
     ⟨9, .xt (.t 5) 0, none, false⟩,
     ⟨10, .xt (.t 5) 1, none, false⟩,
     ⟨3, .mv (.t 9), none, false⟩,
     ⟨4, .mv (.t 10), none, false⟩])
   (.seq
    (.reg false [⟨11, .mv (.t 4), none, false⟩,
      ⟨12, .mv (.t 11), none, false⟩,
      ⟨13, .fa 1 (.t 1), (some (12, true)), false⟩,
      ⟨14, .ld 1 false (.t 13), (some (12, true)), false⟩,
      ⟨15, .ca (.k (.cl 51 [])) [(.t 14), (.k (.sc (.int .i64 0))), (.k (.sc (.int .i64 100)))], (some (12, true)), false⟩,
      ⟨16, .pk (.t 12) (.t 15) (.k (.sc (.bool false))), none, false⟩,
      ⟨17, .mv (.t 16), none, false⟩,
      ⟨18, .fa 1 (.t 1), (some (17, true)), false⟩,
      ⟨19, .ld 1 false (.t 18), (some (17, true)), false⟩,
      ⟨20, .mv (.t 3), (some (17, true)), false⟩,
      ⟨21, .ar .sub false (.t 19) (.t 20), (some (17, true)), false⟩,
      ⟨22, .ca (.k (.cl 51 [])) [(.t 21), (.k (.sc (.int .i64 (-15)))), (.k (.sc (.int .i64 15)))], (some (17, true)), false⟩,
      ⟨23, .pk (.t 17) (.t 22) (.k (.sc (.bool false))), none, false⟩,
      ⟨24, .mv (.t 23), none, false⟩,
      ⟨25, .fa 2 (.t 1), (some (24, true)), false⟩,
      ⟨26, .ld 1 false (.t 25), (some (24, true)), false⟩,
      ⟨27, .ca (.k (.cl 51 [])) [(.t 26), (.k (.sc (.int .i64 0))), (.k (.sc (.int .i64 179)))], (some (24, true)), false⟩,
      ⟨28, .pk (.t 24) (.t 27) (.k (.sc (.bool false))), none, false⟩,
      ⟨2, .mv (.t 28), none, false⟩])
    .ret)))⟩
def i45 : Ev.Fn := ⟨2, 19, [.cell 4 3 true, .tmp 5],
 (.seq
  (.reg false [⟨2, .bx (.t 0), none, false⟩,
    ⟨4, .al [(.sc (.string ⟨#[]⟩)), (.sc (.int .i64 0)), (.sc (.int .i64 0))], none, false⟩,
    ⟨5, .mv (.k (.sc (.int .i64 0))), none, false⟩])
  (.seq
   (.seq
    (.reg false [⟨6, .ca (.k (.cl 67 [])) [(.t 2)], none, false⟩,
      ⟨7, .nt (.t 6), none, false⟩])
    (.ite (.t 7)
     (.seq
      (.reg false [⟨8, .bd [(.sc (.string ⟨#[]⟩)), (.sc (.int .i64 0)), (.sc (.int .i64 0))] [], none, false⟩,
        ⟨0, .so 3 (.t 4) (.t 8), none, true⟩,
        ⟨5, .mv (.k (.sc (.int .i64 1))), none, false⟩])
      .ret)
     .skip))
   (.seq
    (.seq
     (.reg false [⟨9, .mv (.t 1), none, false⟩,
       ⟨10, .ca (.k (.cl 64 [])) [(.t 9), (.k (.sc (.int .i64 0))), (.k (.sc (.int .i64 100)))], none, false⟩,
       ⟨11, .nt (.t 10), none, false⟩])
     (.ite (.t 11)
      (.seq
       (.reg false [⟨12, .bd [(.sc (.string ⟨#[]⟩)), (.sc (.int .i64 0)), (.sc (.int .i64 0))] [], none, false⟩,
         ⟨0, .so 3 (.t 4) (.t 12), none, true⟩,
         ⟨5, .mv (.k (.sc (.int .i64 2))), none, false⟩])
       .ret)
      .skip))
    (.seq
     (.reg false [⟨13, .mv (.t 1), none, false⟩,
       ⟨14, .fa 1 (.t 2), none, false⟩,
       ⟨0, .so 1 (.t 14) (.t 13), none, true⟩])
     (.seq
      (.seq
       (.reg false [⟨15, .ca (.k (.cl 67 [])) [(.t 2)], none, false⟩,
         ⟨16, .nt (.t 15), none, false⟩])
       (.ite (.t 16)
        (.seq
         (.reg false [⟨17, .bd [(.sc (.string ⟨#[]⟩)), (.sc (.int .i64 0)), (.sc (.int .i64 0))] [], none, false⟩,
           ⟨0, .so 3 (.t 4) (.t 17), none, true⟩,
           ⟨5, .mv (.k (.sc (.int .i64 6))), none, false⟩])
         .ret)
        .skip))
      (.seq
       (.reg false [⟨18, .ld 3 true (.t 2), none, false⟩,
         ⟨0, .so 3 (.t 4) (.t 18), none, true⟩,
         ⟨5, .mv (.k (.sc (.int .i64 0))), none, false⟩])
       .ret))))))⟩
def i46 : Ev.Fn := ⟨2, 23, [.cell 4 3 true, .tmp 5],
 (.seq
  (.reg false [⟨2, .bx (.t 0), none, false⟩,
    ⟨4, .al [(.sc (.string ⟨#[]⟩)), (.sc (.int .i64 0)), (.sc (.int .i64 0))], none, false⟩,
    ⟨5, .mv (.k (.sc (.int .i64 0))), none, false⟩])
  (.seq
   (.block 0
    (.seq
     (.reg false [⟨7, .ld 3 true (.t 2), none, false⟩,
       ⟨8, .ca (.k (.cl 37 [])) [(.t 7)], none, false⟩,
       ⟨9, .nt (.t 8), none, false⟩,
       ⟨6, .mv (.t 9), none, false⟩])
     (.ite (.t 6)
      (.seq
       (.reg false [⟨10, .bd [(.sc (.string ⟨#[]⟩)), (.sc (.int .i64 0)), (.sc (.int .i64 0))] [], none, false⟩,
         ⟨0, .so 3 (.t 4) (.t 10), none, true⟩,
         ⟨5, .mv (.k (.sc (.int .i64 1))), none, false⟩])
       .ret)
      (.seq
       (.reg false [⟨12, .mv (.t 1), none, false⟩,
         ⟨13, .ca (.k (.cl 51 [])) [(.t 12), (.k (.sc (.int .i64 0))), (.k (.sc (.int .i64 100)))], none, false⟩,
         ⟨14, .nt (.t 13), none, false⟩,
         ⟨11, .mv (.t 14), none, false⟩])
       (.ite (.t 11)
        (.seq
         (.reg false [⟨15, .bd [(.sc (.string ⟨#[]⟩)), (.sc (.int .i64 0)), (.sc (.int .i64 0))] [], none, false⟩,
           ⟨0, .so 3 (.t 4) (.t 15), none, true⟩,
           ⟨5, .mv (.k (.sc (.int .i64 2))), none, false⟩])
         .ret)
        .skip)))))
   (.seq
    (.reg false [⟨16, .mv (.t 1), none, false⟩,
      ⟨17, .fa 1 (.t 2), none, false⟩,
      ⟨0, .so 1 (.t 17) (.t 16), none, true⟩])
    (.seq
     (.seq
      (.reg false [⟨18, .ld 3 true (.t 2), none, false⟩,
        ⟨19, .ca (.k (.cl 37 [])) [(.t 18)], none, false⟩,
        ⟨20, .nt (.t 19), none, false⟩])
      (.ite (.t 20)
       (.seq
        (.reg false [⟨21, .bd [(.sc (.string ⟨#[]⟩)), (.sc (.int .i64 0)), (.sc (.int .i64 0))] [], none, false⟩,
          ⟨0, .so 3 (.t 4) (.t 21), none, true⟩,
          ⟨5, .mv (.k (.sc (.int .i64 6))), none, false⟩])
        .ret)
       .skip))
     (.seq
      (.reg false [⟨22, .ld 3 true (.t 2), none, false⟩,
        ⟨0, .so 3 (.t 4) (.t 22), none, true⟩,
        ⟨5, .mv (.k (.sc (.int .i64 0))), none, false⟩])
      .ret)))))⟩
def i47 : Ev.Fn := ⟨2, 20, [.tmp 4],
 (.seq
  (.reg false [⟨2, .bx (.t 0), none, false⟩,
    ⟨3, .bx (.t 1), none, false⟩,
    ⟨4, .mv (.k (.sc (.bool false))), none, false⟩])
  (.seq
   (.seq
    (.reg false [⟨5, .fa 0 (.t 2), none, false⟩,
      ⟨6, .ld 1 false (.t 5), none, false⟩,
      ⟨7, .fa 0 (.t 3), none, false⟩,
      ⟨8, .ld 1 false (.t 7), none, false⟩,
      ⟨9, .ar .neq false (.t 6) (.t 8), none, false⟩])
    (.ite (.t 9)
     (.seq
      (.reg false [⟨4, .mv (.k (.sc (.bool false))), none, false⟩])
      .ret)
     .skip))
   (.seq
    (.seq
     (.reg false [⟨10, .fa 1 (.t 2), none, false⟩,
       ⟨11, .ld 1 false (.t 10), none, false⟩,
       ⟨12, .fa 1 (.t 3), none, false⟩,
       ⟨13, .ld 1 false (.t 12), none, false⟩,
       ⟨14, .ar .neq false (.t 11) (.t 13), none, false⟩])
     (.ite (.t 14)
      (.seq
       (.reg false [⟨4, .mv (.k (.sc (.bool false))), none, false⟩])
       .ret)
      .skip))
    (.seq
     (.seq
      (.reg false [⟨15, .fa 2 (.t 2), none, false⟩,
        ⟨16, .ld 1 false (.t 15), none, false⟩,
        ⟨17, .fa 2 (.t 3), none, false⟩,
        ⟨18, .ld 1 false (.t 17), none, false⟩,
        ⟨19, .ar .neq false (.t 16) (.t 18), none, false⟩])
      (.ite (.t 19)
       (.seq
        (.reg false [⟨4, .mv (.k (.sc (.bool false))), none, false⟩])
        .ret)
       .skip))
     (.seq
      (.reg false [⟨4, .mv (.k (.sc (.bool true))), none, false⟩])
      .ret)))))⟩
def i48 : Ev.Fn := ⟨2, 13, [.tmp 4, .tmp 5],
 (.seq
  (.reg false [⟨2, .bx (.t 0), none, false⟩,
    ⟨3, .bx (.t 1), none, false⟩,
    ⟨4, .mv (.k (.sc (.int .i64 0))), none, false⟩,
    ⟨5, .mv (.k (.sc (.int .i64 0))), none, false⟩])
  (.seq
   (.seq
    (.reg false [⟨6, .ca (.k (.cl 67 [])) [(.t 2)], none, false⟩,
      ⟨7, .nt (.t 6), none, false⟩,
      ⟨8, .mv (.t 7), none, false⟩,
      ⟨9, .ca (.k (.cl 67 [])) [(.t 3)], (some (8, false)), false⟩,
      ⟨10, .nt (.t 9), (some (8, false)), false⟩,
      ⟨11, .pk (.t 8) (.k (.sc (.bool true))) (.t 10), none, false⟩])
    (.ite (.t 11)
     (.seq
      (.reg false [⟨4, .mv (.k (.sc (.int .i64 0))), none, false⟩,
        ⟨5, .mv (.k (.sc (.int .i64 1))), none, false⟩])
      .ret)
     .skip))
   (.seq
    (.reg false [⟨12, .ca (.k (.cl 72 [])) [(.t 2), (.t 3)], none, false⟩,
      ⟨4, .mv (.t 12), none, false⟩,
      ⟨5, .mv (.k (.sc (.int .i64 0))), none, false⟩])
    .ret)))⟩
def i49 : Ev.Fn := ⟨2, 17, [.tmp 4, .tmp 5],
 (.seq
  (.reg false [⟨2, .bx (.t 0), none, false⟩,
    ⟨3, .bx (.t 1), none, false⟩,
    ⟨4, .mv (.k (.sc (.int .i64 0))), none, false⟩,
    ⟨5, .mv (.k (.sc (.int .i64 0))), none, false⟩])
  (.seq
   (.seq
    (.reg false [⟨6, .ld 3 true (.t 2), none, false⟩,
      ⟨7, .ca (.k (.cl 37 [])) [(.t 6)], none, false⟩,
      ⟨8, .nt (.t 7), none, false⟩,
      ⟨9, .mv (.t 8), none, false⟩,
      ⟨10, .ld 3 true (.t 3), (some (9, false)), false⟩,
      ⟨11, .ca (.k (.cl 37 [])) [(.t 10)], (some (9, false)), false⟩,
      ⟨12, .nt (.t 11), (some (9, false)), false⟩,
      ⟨13, .pk (.t 9) (.k (.sc (.bool true))) (.t 12), none, false⟩])
    (.ite (.t 13)
     (.seq
      (.reg false [⟨4, .mv (.k (.sc (.int .i64 0))), none, false⟩,
        ⟨5, .mv (.k (.sc (.int .i64 1))), none, false⟩])
      .ret)
     .skip))
   (.seq
    (.reg false [⟨14, .ld 3 true (.t 2), none, false⟩,
      ⟨15, .ld 3 true (.t 3), none, false⟩,
      ⟨16, .ca (.k (.cl 73 [])) [(.t 14), (.t 15)], none, false⟩,
      ⟨4, .mv (.t 16), none, false⟩,
      ⟨5, .mv (.k (.sc (.int .i64 0))), none, false⟩])
    .ret)))⟩
def i51 : Ev.Fn := ⟨3, 15, [.tmp 6],
 (.seq
  (.reg false [⟨6, .mv (.k (.sc (.bool false))), none, false⟩])
  (.seq
   (.reg false [⟨7, .mv (.t 0), none, false⟩,
     ⟨8, .mv (.t 1), none, false⟩,
     ⟨9, .ar .geq false (.t 7) (.t 8), none, false⟩,
     ⟨10, .mv (.t 9), none, false⟩,
     ⟨11, .mv (.t 0), (some (10, true)), false⟩,
     ⟨12, .mv (.t 2), (some (10, true)), false⟩,
     ⟨13, .ar .leq false (.t 11) (.t 12), (some (10, true)), false⟩,
     ⟨14, .pk (.t 10) (.t 13) (.k (.sc (.bool false))), none, false⟩,
     ⟨6, .mv (.t 14), none, false⟩])
   .ret))⟩
def i52 : Ev.Fn := ⟨1, 5, [.tmp 2],
 (.seq
  (.reg false [⟨2, .mv (.k (.sc (.bool false))), none, false⟩])
  (.seq
   (.reg false [⟨3, .mv (.t 0), none, false⟩,
     ⟨4, .ca (.k (.cl 64 [])) [(.t 3), (.k (.sc (.int .i64 0))), (.k (.sc (.int .i64 179)))], none, false⟩,
     ⟨2, .mv (.t 4), none, false⟩])
   .ret))⟩
def i55 : Ev.Fn := ⟨2, 17, [.tmp 4],
 (.seq
  (.reg false [⟨4, .mv (.k (.sc (.int .i64 0))), none, false⟩])
  (.seq
   (.reg false [⟨6, .mv (.t 0), none, false⟩,
     ⟨7, .mv (.t 1), none, false⟩,
     ⟨8, .ar .sub false (.t 6) (.t 7), none, false⟩,
     ⟨9, .mv (.t 1), none, false⟩,
     ⟨10, .mv (.t 0), none, false⟩,
     ⟨11, .ar .sub false (.t 9) (.t 10), none, false⟩,
     ⟨12, .ca (.k (.cl 65 [])) [(.t 8), (.t 11)], none, false⟩,
     ⟨5, .mv (.t 12), none, false⟩])
   (.seq
    (.reg false [⟨13, .mv (.t 5), none, false⟩,
      ⟨14, .mv (.t 5), none, false⟩,
      ⟨15, .ar .sub false (.k (.sc (.int .i64 180))) (.t 14), none, false⟩,
      ⟨16, .ca (.k (.cl 74 [])) [(.t 13), (.t 15)], none, false⟩,
      ⟨4, .mv (.t 16), none, false⟩])
    .ret)))⟩
def i60 : Ev.Fn := ⟨0, 2, [.tmp 0],
 (.seq
  (.reg false [⟨0, .mv (.k .nl), none, false⟩])
  (.seq
   (.reg false [⟨1, .bs 9 1 [(.sc (.string ⟨#[]⟩))] 10 [(0, (.k (.sc (.string ⟨#[97, 115, 104]⟩)))), (1, (.k (.sc (.string ⟨#[98, 101, 101, 99, 104]⟩)))), (2, (.k (.sc (.string ⟨#[98, 105, 114, 99, 104]⟩)))), (3, (.k (.sc (.string ⟨#[99, 104, 101, 114, 114, 121]⟩)))), (4, (.k (.sc (.string ⟨#[101, 98, 111, 110, 121]⟩)))), (5, (.k (.sc (.string ⟨#[104, 111, 108, 108, 121]⟩)))), (6, (.k (.sc (.string ⟨#[109, 97, 112, 108, 101]⟩)))), (7, (.k (.sc (.string ⟨#[111, 97, 107]⟩)))), (8, (.k (.sc (.string ⟨#[114, 111, 115, 101, 119, 111, 111, 100]⟩)))), (9, (.k (.sc (.string ⟨#[119, 97, 108, 110, 117, 116]⟩))))], none, false⟩,
     ⟨0, .mv (.t 1), none, false⟩])
   .ret))⟩
def b62_1 : IC :=
 (.seq
         (.seq
          (.reg false [⟨6, .mv (.t 4), none, false⟩,
            ⟨7, .mv (.t 3), none, false⟩,
            ⟨8, .ln false (.t 7), none, false⟩,
            ⟨9, .ar .lss false (.t 6) (.t 8), none, false⟩])
          (.ite (.t 9)
           .skip
           (.exit 0)))
         (.seq
          (.block 1
           (.seq
            (.reg false [⟨12, .mv (.t 3), none, false⟩,
              ⟨13, .mv (.t 4), none, false⟩,
              ⟨14, .ia 1 (.t 12) (.t 13), none, false⟩,
              ⟨15, .ld 1 false (.t 14), none, false⟩,
              ⟨16, .mv (.t 0), none, false⟩,
              ⟨17, .ar .eql false (.t 15) (.t 16), none, false⟩])
            (.ite (.t 17)
             (.seq
              (.reg false [⟨18, .mv (.t 4), none, false⟩,
                ⟨2, .mv (.t 18), none, false⟩])
              .ret)
             .skip)))
          (.reg false [⟨10, .mv (.t 4), none, false⟩,
            ⟨11, .ar .add false (.t 10) (.k (.sc (.int .i64 1))), none, false⟩,
            ⟨4, .mv (.t 11), none, false⟩])))
def i62 : Ev.Fn := ⟨1, 19, [.tmp 2],
 (.seq
  (.reg false [⟨2, .mv (.k (.sc (.int .i64 0))), none, false⟩])
  (.seq
   (.reg false [⟨5, .ca (.k (.cl 60 [])) [], none, false⟩,
     ⟨3, .mv (.t 5), none, false⟩])
   (.seq
    (.seq
     (.reg false [⟨4, .mv (.k (.sc (.int .i64 0))), none, false⟩])
     (.cln [] [2]
      (.block 0
       (.loop [0, 3, 4] b62_1))))
    (.seq
     (.reg false [⟨2, .mv (.k (.sc (.int .i64 (-1)))), none, false⟩])
     .ret))))⟩
def i63 : Ev.Fn := ⟨0, 12, [.tmp 0],
 (.seq
  (.reg false [⟨0, .mv (.k .nl), none, false⟩])
  (.seq
   (.reg false [⟨1, .bs 2 1 [(.sc (.int .i64 0))] 3 [(0, (.k (.sc (.int .i64 20)))), (1, (.k (.sc (.int .i64 40)))), (2, (.k (.sc (.int .i64 310))))], none, false⟩,
     ⟨2, .bs 2 1 [(.sc (.int .i64 0))] 3 [(0, (.k (.sc (.int .i64 35)))), (1, (.k (.sc (.int .i64 45)))), (2, (.k (.sc (.int .i64 410))))], none, false⟩,
     ⟨3, .bs 2 1 [(.sc (.int .i64 0))] 3 [(0, (.k (.sc (.int .i64 15)))), (1, (.k (.sc (.int .i64 33)))), (2, (.k (.sc (.int .i64 280))))], none, false⟩,
     ⟨4, .bs 2 1 [(.sc (.int .i64 0))] 3 [(0, (.k (.sc (.int .i64 50)))), (1, (.k (.sc (.int .i64 36)))), (2, (.k (.sc (.int .i64 240))))], none, false⟩,
     ⟨5, .bs 2 1 [(.sc (.int .i64 0))] 3 [(0, (.k (.sc (.int .i64 95)))), (1, (.k (.sc (.int .i64 85)))), (2, (.k (.sc (.int .i64 270))))], none, false⟩,
     ⟨6, .bs 2 1 [(.sc (.int .i64 0))] 3 [(0, (.k (.sc (.int .i64 5)))), (1, (.k (.sc (.int .i64 35)))), (2, (.k (.sc (.int .i64 370))))], none, false⟩,
     ⟨7, .bs 2 1 [(.sc (.int .i64 0))] 3 [(0, (.k (.sc (.int .i64 10)))), (1, (.k (.sc (.int .i64 42)))), (2, (.k (.sc (.int .i64 290))))], none, false⟩,
     ⟨8, .bs 2 1 [(.sc (.int .i64 0))] 3 [(0, (.k (.sc (.int .i64 40)))), (1, (.k (.sc (.int .i64 40)))), (2, (.k (.sc (.int .i64 330))))], none, false⟩,
     ⟨9, .bs 2 1 [(.sc (.int .i64 0))] 3 [(0, (.k (.sc (.int .i64 80)))), (1, (.k (.sc (.int .i64 60)))), (2, (.k (.sc (.int .i64 220))))], none, false⟩,
     ⟨10, .bs 2 1 [(.sc (.int .i64 0))] 3 [(0, (.k (.sc (.int .i64 70)))), (1, (.k (.sc (.int .i64 38)))), (2, (.k (.sc (.int .i64 260))))], none, false⟩,
     ⟨11, .bw 80 1 [.nl] 10 [(0, (.t 1)), (1, (.t 2)), (2, (.t 3)), (3, (.t 4)), (4, (.t 5)), (5, (.t 6)), (6, (.t 7)), (7, (.t 8)), (8, (.t 9)), (9, (.t 10))], none, false⟩,
     ⟨0, .mv (.t 11), none, false⟩])
   .ret))⟩
def i64 : Ev.Fn := ⟨3, 15, [.tmp 6],
 (.seq
  (.reg false [⟨6, .mv (.k (.sc (.bool false))), none, false⟩])
  (.seq
   (.reg false [⟨7, .mv (.t 0), none, false⟩,
     ⟨8, .mv (.t 1), none, false⟩,
     ⟨9, .ar .geq false (.t 7) (.t 8), none, false⟩,
     ⟨10, .mv (.t 9), none, false⟩,
     ⟨11, .mv (.t 0), (some (10, true)), false⟩,
     ⟨12, .mv (.t 2), (some (10, true)), false⟩,
     ⟨13, .ar .leq false (.t 11) (.t 12), (some (10, true)), false⟩,
     ⟨14, .pk (.t 10) (.t 13) (.k (.sc (.bool false))), none, false⟩,
     ⟨6, .mv (.t 14), none, false⟩])
   .ret))⟩
def i65 : Ev.Fn := ⟨2, 10, [.tmp 4],
 (.seq
  (.reg false [⟨4, .mv (.k (.sc (.int .i64 0))), none, false⟩])
  (.seq
   (.seq
    (.reg false [⟨5, .mv (.t 0), none, false⟩,
      ⟨6, .mv (.t 1), none, false⟩,
      ⟨7, .ar .gtr false (.t 5) (.t 6), none, false⟩])
    (.ite (.t 7)
     (.seq
      (.reg false [⟨8, .mv (.t 0), none, false⟩,
        ⟨4, .mv (.t 8), none, false⟩])
      .ret)
     .skip))
   (.seq
    (.reg false [⟨9, .mv (.t 1), none, false⟩,
      ⟨4, .mv (.t 9), none, false⟩])
    .ret)))⟩
def i66 : Ev.Fn := ⟨1, 18, [.tmp 2, .tmp 3],
 (.seq
  (.reg false [⟨2, .mv (.k (.sc (.int .i64 0))), none, false⟩,
    ⟨3, .mv (.k (.sc (.bool false))), none, false⟩])
  (.seq
   (.reg false [⟨9, .mv (.t 0), none, false⟩,
     ⟨10, .ca (.k (.cl 31 [])) [(.t 9)], none, false⟩,
     ⟨8, .mv (.t 10), none, false⟩,
     ⟨11, .xt (.t 8) 0, none, false⟩,
     ⟨12, .xt (.t 8) 1, none, false⟩,
     ⟨13, .xt (.t 8) 2, none, false⟩,
     ⟨14, .xt (.t 8) 3, none, false⟩,
     ⟨4, .mv (.t 11), none, false⟩,
     ⟨5, .mv (.t 12), none, false⟩,
     ⟨6, .mv (.t 13), none, false⟩,
     ⟨7, .mv (.t 14), none, false⟩])
   (.seq
    (.reg false [⟨15, .mv (.t 4), none, false⟩,
      ⟨16, .mv (.t 7), none, false⟩,
      ⟨17, .ar .eql false (.t 16) (.k (.sc (.int .i64 0))), none, false⟩,
      ⟨2, .mv (.t 15), none, false⟩,
      ⟨3, .mv (.t 17), none, false⟩])
    .ret)))⟩
def i67 : Ev.Fn := ⟨1, 42, [.tmp 2],
 (.seq
  (.reg false [⟨2, .mv (.k (.sc (.bool false))), none, false⟩])
  (.seq
   (.reg false [⟨5, .mv (.t 0), none, false⟩,
     ⟨6, .nc (.t 5), none, false⟩,
     ⟨7, .fa 0 (.t 6), none, false⟩,
     ⟨8, .ld 1 false (.t 7), none, false⟩,
     ⟨9, .ca (.k (.cl 62 [])) [(.t 8)], none, false⟩,
     ⟨3, .mv (.t 9), none, false⟩])
   (.seq
    (.seq
     (.reg false [⟨10, .mv (.t 3), none, false⟩,
       ⟨11, .ar .lss false (.t 10) (.k (.sc (.int .i64 0))), none, false⟩,
       ⟨12, .mv (.t 11), none, false⟩,
       ⟨13, .mv (.t 0), (some (12, false)), false⟩,
       ⟨14, .nc (.t 13), (some (12, false)), false⟩,
       ⟨15, .fa 1 (.t 14), (some (12, false)), false⟩,
       ⟨16, .ld 1 false (.t 15), (some (12, false)), false⟩,
       ⟨17, .ca (.k (.cl 64 [])) [(.t 16), (.k (.sc (.int .i64 0))), (.k (.sc (.int .i64 100)))], (some (12, false)), false⟩,
       ⟨18, .nt (.t 17), (some (12, false)), false⟩,
       ⟨19, .pk (.t 12) (.k (.sc (.bool true))) (.t 18), none, false⟩])
     (.ite (.t 19)
      (.seq
       (.reg false [⟨2, .mv (.k (.sc (.bool false))), none, false⟩])
       .ret)
      .skip))
    (.seq
     (.reg false [⟨20, .ca (.k (.cl 63 [])) [], none, false⟩,
       ⟨21, .mv (.t 3), none, false⟩,
       ⟨22, .ia 1 (.t 20) (.t 21), none, false⟩,
       ⟨23, .ld 1 false (.t 22), none, false⟩,
       ⟨24, .ia 1 (.t 23) (.k (.sc (.int .i64 0))), none, false⟩,
       ⟨25, .ld 1 false (.t 24), none, false⟩,
       ⟨4, .mv (.t 25), none, false⟩])
     (.seq
      (.reg false [⟨26, .mv (.t 0), none, false⟩,
        ⟨27, .nc (.t 26), none, false⟩,
        ⟨28, .fa 1 (.t 27), none, false⟩,
        ⟨29, .ld 1 false (.t 28), none, false⟩,
        ⟨30, .mv (.t 4), none, false⟩,
        ⟨31, .ar .sub false (.t 30) (.k (.sc (.int .i64 15))), none, false⟩,
        ⟨32, .mv (.t 4), none, false⟩,
        ⟨33, .ar .add false (.t 32) (.k (.sc (.int .i64 15))), none, false⟩,
        ⟨34, .ca (.k (.cl 64 [])) [(.t 29), (.t 31), (.t 33)], none, false⟩,
        ⟨35, .mv (.t 34), none, false⟩,
        ⟨36, .mv (.t 0), (some (35, true)), false⟩,
        ⟨37, .nc (.t 36), (some (35, true)), false⟩,
        ⟨38, .fa 2 (.t 37), (some (35, true)), false⟩,
        ⟨39, .ld 1 false (.t 38), (some (35, true)), false⟩,
        ⟨40, .ca (.k (.cl 52 [])) [(.t 39)], (some (35, true)), false⟩,
        ⟨41, .pk (.t 35) (.t 40) (.k (.sc (.bool false))), none, false⟩,
        ⟨2, .mv (.t 41), none, false⟩])
      .ret)))))⟩
def i72 : Ev.Fn := ⟨2, 35, [.tmp 4],
 (.seq
  (.reg false [⟨4, .mv (.k (.sc (.int .i64 0))), none, false⟩])
  (.seq
   (.reg true [⟨5, .mv (.t 0), none, false⟩,
     ⟨6, .nc (.t 5), none, false⟩,
     ⟨7, .fa 1 (.t 6), none, false⟩,
     ⟨8, .ld 1 false (.t 7), none, false⟩,
     ⟨9, .mv (.t 1), none, false⟩,
     ⟨10, .nc (.t 9), none, false⟩,
     ⟨11, .fa 1 (.t 10), none, false⟩,
     ⟨12, .ld 1 false (.t 11), none, false⟩,
     ⟨13, .ar .sub false (.t 8) (.t 12), none, false⟩,
     ⟨14, .mv (.t 1), none, false⟩,
     ⟨15, .nc (.t 14), none, false⟩,
     ⟨16, .fa 1 (.t 15), none, false⟩,
     ⟨17, .ld 1 false (.t 16), none, false⟩,
     ⟨18, .mv (.t 0), none, false⟩,
     ⟨19, .nc (.t 18), none, false⟩,
     ⟨20, .fa 1 (.t 19), none, false⟩,
     ⟨21, .ld 1 false (.t 20), none, false⟩,
     ⟨22, .ar .sub false (.t 17) (.t 21), none, false⟩,
     ⟨23, .ca (.k (.cl 65 [])) [(.t 13), (.t 22)], none, false⟩,
     ⟨24, .mv (.t 0), none, false⟩,
     ⟨25, .nc (.t 24), none, false⟩,
     ⟨26, .fa 2 (.t 25), none, false⟩,
     ⟨27, .ld 1 false (.t 26), none, false⟩,
     ⟨28, .mv (.t 1), none, false⟩,
     ⟨29, .nc (.t 28), none, false⟩,
     ⟨30, .fa 2 (.t 29), none, false⟩,
     ⟨31, .ld 1 false (.t 30), none, false⟩,
     ⟨32, .ca (.k (.cl 55 [])) [(.t 27), (.t 31)], none, false⟩,
     ⟨33, .ar .quo false (.t 32) (.k (.sc (.int .i64 6))), none, false⟩,
     ⟨34, .ar .add false (.t 23) (.t 33), none, false⟩,
     ⟨4, .mv (.t 34), none, false⟩])
   .ret))⟩
def i73 : Ev.Fn := ⟨2, 29, [.tmp 4],
 (.seq
  (.reg false [⟨2, .bx (.t 0), none, false⟩,
    ⟨3, .bx (.t 1), none, false⟩,
    ⟨4, .mv (.k (.sc (.int .i64 0))), none, false⟩])
  (.seq
   (.reg false [⟨8, .fa 2 (.t 2), none, false⟩,
     ⟨9, .ld 1 false (.t 8), none, false⟩,
     ⟨10, .fa 2 (.t 3), none, false⟩,
     ⟨11, .ld 1 false (.t 10), none, false⟩,
     ⟨12, .ca (.k (.cl 21 [])) [(.t 9), (.t 11)], none, false⟩,
     ⟨7, .mv (.t 12), none, false⟩,
     ⟨13, .xt (.t 7) 0, none, false⟩,
     ⟨14, .xt (.t 7) 1, none, false⟩,
     ⟨5, .mv (.t 13), none, false⟩,
     ⟨6, .mv (.t 14), none, false⟩])
   (.seq
    (.reg false [⟨15, .fa 1 (.t 2), none, false⟩,
      ⟨16, .ld 1 false (.t 15), none, false⟩,
      ⟨17, .fa 1 (.t 3), none, false⟩,
      ⟨18, .ld 1 false (.t 17), none, false⟩,
      ⟨19, .ar .sub false (.t 16) (.t 18), none, false⟩,
      ⟨20, .fa 1 (.t 3), none, false⟩,
      ⟨21, .ld 1 false (.t 20), none, false⟩,
      ⟨22, .fa 1 (.t 2), none, false⟩,
      ⟨23, .ld 1 false (.t 22), none, false⟩,
      ⟨24, .ar .sub false (.t 21) (.t 23), none, false⟩,
      ⟨25, .mx (.t 19) (.t 24), none, false⟩,
      ⟨26, .mv (.t 5), none, false⟩,
      ⟨27, .ar .quo false (.t 26) (.k (.sc (.int .i64 6))), none, false⟩,
      ⟨28, .ar .add false (.t 25) (.t 27), none, false⟩,
      ⟨4, .mv (.t 28), none, false⟩])
    .ret)))⟩
def i74 : Ev.Fn := ⟨2, 10, [.tmp 4],
 (.seq
  (.reg false [⟨4, .mv (.k (.sc (.int .i64 0))), none, false⟩])
  (.seq
   (.seq
    (.reg false [⟨5, .mv (.t 0), none, false⟩,
      ⟨6, .mv (.t 1), none, false⟩,
      ⟨7, .ar .lss false (.t 5) (.t 6), none, false⟩])
    (.ite (.t 7)
     (.seq
      (.reg false [⟨8, .mv (.t 0), none, false⟩,
        ⟨4, .mv (.t 8), none, false⟩])
      .ret)
     .skip))
   (.seq
    (.reg false [⟨9, .mv (.t 1), none, false⟩,
      ⟨4, .mv (.t 9), none, false⟩])
    .ret)))⟩
theorem c9 : cFn Try.prog 9 [] = some i9 := by kernel_rfl
theorem e9 : enterOk Try.prog 9 = true := by kernel_rfl
theorem c10 : cFn Try.prog 10 [] = some i10 := by kernel_rfl
theorem e10 : enterOk Try.prog 10 = true := by kernel_rfl
theorem c13 : cFn Try.prog 13 [] = some i13 := by kernel_rfl
theorem e13 : enterOk Try.prog 13 = true := by kernel_rfl
theorem c14 : cFn Try.prog 14 [] = some i14 := by kernel_rfl
theorem e14 : enterOk Try.prog 14 = true := by kernel_rfl
theorem c21 : cFn Try.prog 21 [] = some i21 := by kernel_rfl
theorem e21 : enterOk Try.prog 21 = true := by kernel_rfl
theorem c26 : cFn Try.prog 26 [] = some i26 := by kernel_rfl
theorem e26 : enterOk Try.prog 26 = true := by kernel_rfl
theorem c31 : cFn Try.prog 31 [] = some i31 := by kernel_rfl
theorem e31 : enterOk Try.prog 31 = true := by kernel_rfl
theorem c32 : cFn Try.prog 32 [[0, 4, 5, 6], [5], [2, 3]] = some i32 := by kernel_rfl
theorem e32 : enterOk Try.prog 32 = true := by kernel_rfl
theorem c33 : cFn Try.prog 33 [[0, 4, 5, 14, 15, 16], [4], [2, 3]] = some i33 := by kernel_rfl
theorem e33 : enterOk Try.prog 33 = true := by kernel_rfl
theorem c34 : cFn Try.prog 34 [] = some i34 := by kernel_rfl
theorem e34 : enterOk Try.prog 34 = true := by kernel_rfl
theorem c35 : cFn Try.prog 35 [] = some i35 := by kernel_rfl
theorem e35 : enterOk Try.prog 35 = true := by kernel_rfl
theorem c36 : cFn Try.prog 36 [] = some i36 := by kernel_rfl
theorem e36 : enterOk Try.prog 36 = true := by kernel_rfl
theorem c37 : cFn Try.prog 37 [] = some i37 := by kernel_rfl
theorem e37 : enterOk Try.prog 37 = true := by kernel_rfl
theorem c45 : cFn Try.prog 45 [] = some i45 := by kernel_rfl
theorem e45 : enterOk Try.prog 45 = true := by kernel_rfl
theorem c46 : cFn Try.prog 46 [] = some i46 := by kernel_rfl
theorem e46 : enterOk Try.prog 46 = true := by kernel_rfl
theorem c47 : cFn Try.prog 47 [] = some i47 := by kernel_rfl
theorem e47 : enterOk Try.prog 47 = true := by kernel_rfl
theorem c48 : cFn Try.prog 48 [] = some i48 := by kernel_rfl
theorem e48 : enterOk Try.prog 48 = true := by kernel_rfl
theorem c49 : cFn Try.prog 49 [] = some i49 := by kernel_rfl
theorem e49 : enterOk Try.prog 49 = true := by kernel_rfl
theorem c51 : cFn Try.prog 51 [] = some i51 := by kernel_rfl
theorem e51 : enterOk Try.prog 51 = true := by kernel_rfl
theorem c52 : cFn Try.prog 52 [] = some i52 := by kernel_rfl
theorem e52 : enterOk Try.prog 52 = true := by kernel_rfl
theorem c55 : cFn Try.prog 55 [] = some i55 := by kernel_rfl
theorem e55 : enterOk Try.prog 55 = true := by kernel_rfl
theorem c60 : cFn Try.prog 60 [] = some i60 := by kernel_rfl
theorem e60 : enterOk Try.prog 60 = true := by kernel_rfl
theorem c62 : cFn Try.prog 62 [[0, 3, 4], [], [2]] = some i62 := by kernel_rfl
theorem e62 : enterOk Try.prog 62 = true := by kernel_rfl
theorem c63 : cFn Try.prog 63 [] = some i63 := by kernel_rfl
theorem e63 : enterOk Try.prog 63 = true := by kernel_rfl
theorem c64 : cFn Try.prog 64 [] = some i64 := by kernel_rfl
theorem e64 : enterOk Try.prog 64 = true := by kernel_rfl
theorem c65 : cFn Try.prog 65 [] = some i65 := by kernel_rfl
theorem e65 : enterOk Try.prog 65 = true := by kernel_rfl
theorem c66 : cFn Try.prog 66 [] = some i66 := by kernel_rfl
theorem e66 : enterOk Try.prog 66 = true := by kernel_rfl
theorem c67 : cFn Try.prog 67 [] = some i67 := by kernel_rfl
theorem e67 : enterOk Try.prog 67 = true := by kernel_rfl
theorem c72 : cFn Try.prog 72 [] = some i72 := by kernel_rfl
theorem e72 : enterOk Try.prog 72 = true := by kernel_rfl
theorem c73 : cFn Try.prog 73 [] = some i73 := by kernel_rfl
theorem e73 : enterOk Try.prog 73 = true := by kernel_rfl
theorem c74 : cFn Try.prog 74 [] = some i74 := by kernel_rfl
theorem e74 : enterOk Try.prog 74 = true := by kernel_rfl
theorem mixed : Try.prog.follows .mixedOrders = true := by kernel_rfl
def F : Nat → Option Ev.Fn
  | 9 => some i9
  | 10 => some i10
  | 13 => some i13
  | 14 => some i14
  | 21 => some i21
  | 26 => some i26
  | 31 => some i31
  | 32 => some i32
  | 33 => some i33
  | 34 => some i34
  | 35 => some i35
  | 36 => some i36
  | 37 => some i37
  | 45 => some i45
  | 46 => some i46
  | 47 => some i47
  | 48 => some i48
  | 49 => some i49
  | 51 => some i51
  | 52 => some i52
  | 55 => some i55
  | 60 => some i60
  | 62 => some i62
  | 63 => some i63
  | 64 => some i64
  | 65 => some i65
  | 66 => some i66
  | 67 => some i67
  | 72 => some i72
  | 73 => some i73
  | 74 => some i74
  | _ => none
noncomputable def ev (d : Nat) : CallF := evF F (fun _ _ => none) d
theorem ev_fn {f : Nat} {fn : Ev.Fn} (h : F f = some fn) (d : Nat) (args : List LV) (hl : args.length = fn.nargs) : ev (d + 1) f args = Ev.finish fn.res (evC (ev d) fn.body (Ev.start args)) := by
  show evF F (fun _ _ => none) (d + 1) f args = _
  simp only [evF, h, hl, if_true]; rfl
theorem tab : ∀ f fn, F f = some fn → enterOk Try.prog f = true ∧ ∃ ks, cFn Try.prog f ks = some fn := by
  intro f fn h
  unfold F at h
  split at h <;> cases h
  · exact ⟨e9, _, c9⟩
  · exact ⟨e10, _, c10⟩
  · exact ⟨e13, _, c13⟩
  · exact ⟨e14, _, c14⟩
  · exact ⟨e21, _, c21⟩
  · exact ⟨e26, _, c26⟩
  · exact ⟨e31, _, c31⟩
  · exact ⟨e32, _, c32⟩
  · exact ⟨e33, _, c33⟩
  · exact ⟨e34, _, c34⟩
  · exact ⟨e35, _, c35⟩
  · exact ⟨e36, _, c36⟩
  · exact ⟨e37, _, c37⟩
  · exact ⟨e45, _, c45⟩
  · exact ⟨e46, _, c46⟩
  · exact ⟨e47, _, c47⟩
  · exact ⟨e48, _, c48⟩
  · exact ⟨e49, _, c49⟩
  · exact ⟨e51, _, c51⟩
  · exact ⟨e52, _, c52⟩
  · exact ⟨e55, _, c55⟩
  · exact ⟨e60, _, c60⟩
  · exact ⟨e62, _, c62⟩
  · exact ⟨e63, _, c63⟩
  · exact ⟨e64, _, c64⟩
  · exact ⟨e65, _, c65⟩
  · exact ⟨e66, _, c66⟩
  · exact ⟨e67, _, c67⟩
  · exact ⟨e72, _, c72⟩
  · exact ⟨e73, _, c73⟩
  · exact ⟨e74, _, c74⟩
theorem callOk (d : Nat) : CallOk Try.prog (ev d) := evF_ok mixed tab (noPrim_ok _) d
abbrev I (n : Int) : LV := .sc (.int .i64 n)
abbrev B (b : Bool) : LV := .sc (.bool b)
abbrev T (s : ByteArray) : LV := .sc (.string s)
theorem s9 (d : Nat) (args : List LV) (hl : args.length = i9.nargs) : ev (d + 1) 9 args = Ev.finish i9.res (evC (ev d) i9.body (Ev.start args)) := ev_fn rfl d args hl
theorem s10 (d : Nat) (args : List LV) (hl : args.length = i10.nargs) : ev (d + 1) 10 args = Ev.finish i10.res (evC (ev d) i10.body (Ev.start args)) := ev_fn rfl d args hl
theorem s13 (d : Nat) (args : List LV) (hl : args.length = i13.nargs) : ev (d + 1) 13 args = Ev.finish i13.res (evC (ev d) i13.body (Ev.start args)) := ev_fn rfl d args hl
theorem s14 (d : Nat) (args : List LV) (hl : args.length = i14.nargs) : ev (d + 1) 14 args = Ev.finish i14.res (evC (ev d) i14.body (Ev.start args)) := ev_fn rfl d args hl
theorem s21 (d : Nat) (args : List LV) (hl : args.length = i21.nargs) : ev (d + 1) 21 args = Ev.finish i21.res (evC (ev d) i21.body (Ev.start args)) := ev_fn rfl d args hl
theorem s26 (d : Nat) (args : List LV) (hl : args.length = i26.nargs) : ev (d + 1) 26 args = Ev.finish i26.res (evC (ev d) i26.body (Ev.start args)) := ev_fn rfl d args hl
theorem s31 (d : Nat) (args : List LV) (hl : args.length = i31.nargs) : ev (d + 1) 31 args = Ev.finish i31.res (evC (ev d) i31.body (Ev.start args)) := ev_fn rfl d args hl
theorem s32 (d : Nat) (args : List LV) (hl : args.length = i32.nargs) : ev (d + 1) 32 args = Ev.finish i32.res (evC (ev d) i32.body (Ev.start args)) := ev_fn rfl d args hl
theorem s33 (d : Nat) (args : List LV) (hl : args.length = i33.nargs) : ev (d + 1) 33 args = Ev.finish i33.res (evC (ev d) i33.body (Ev.start args)) := ev_fn rfl d args hl
theorem s34 (d : Nat) (args : List LV) (hl : args.length = i34.nargs) : ev (d + 1) 34 args = Ev.finish i34.res (evC (ev d) i34.body (Ev.start args)) := ev_fn rfl d args hl
theorem s35 (d : Nat) (args : List LV) (hl : args.length = i35.nargs) : ev (d + 1) 35 args = Ev.finish i35.res (evC (ev d) i35.body (Ev.start args)) := ev_fn rfl d args hl
theorem s36 (d : Nat) (args : List LV) (hl : args.length = i36.nargs) : ev (d + 1) 36 args = Ev.finish i36.res (evC (ev d) i36.body (Ev.start args)) := ev_fn rfl d args hl
theorem s37 (d : Nat) (args : List LV) (hl : args.length = i37.nargs) : ev (d + 1) 37 args = Ev.finish i37.res (evC (ev d) i37.body (Ev.start args)) := ev_fn rfl d args hl
theorem s45 (d : Nat) (args : List LV) (hl : args.length = i45.nargs) : ev (d + 1) 45 args = Ev.finish i45.res (evC (ev d) i45.body (Ev.start args)) := ev_fn rfl d args hl
theorem s46 (d : Nat) (args : List LV) (hl : args.length = i46.nargs) : ev (d + 1) 46 args = Ev.finish i46.res (evC (ev d) i46.body (Ev.start args)) := ev_fn rfl d args hl
theorem s47 (d : Nat) (args : List LV) (hl : args.length = i47.nargs) : ev (d + 1) 47 args = Ev.finish i47.res (evC (ev d) i47.body (Ev.start args)) := ev_fn rfl d args hl
theorem s48 (d : Nat) (args : List LV) (hl : args.length = i48.nargs) : ev (d + 1) 48 args = Ev.finish i48.res (evC (ev d) i48.body (Ev.start args)) := ev_fn rfl d args hl
theorem s49 (d : Nat) (args : List LV) (hl : args.length = i49.nargs) : ev (d + 1) 49 args = Ev.finish i49.res (evC (ev d) i49.body (Ev.start args)) := ev_fn rfl d args hl
theorem s51 (d : Nat) (args : List LV) (hl : args.length = i51.nargs) : ev (d + 1) 51 args = Ev.finish i51.res (evC (ev d) i51.body (Ev.start args)) := ev_fn rfl d args hl
theorem s52 (d : Nat) (args : List LV) (hl : args.length = i52.nargs) : ev (d + 1) 52 args = Ev.finish i52.res (evC (ev d) i52.body (Ev.start args)) := ev_fn rfl d args hl
theorem s55 (d : Nat) (args : List LV) (hl : args.length = i55.nargs) : ev (d + 1) 55 args = Ev.finish i55.res (evC (ev d) i55.body (Ev.start args)) := ev_fn rfl d args hl
theorem s60 (d : Nat) (args : List LV) (hl : args.length = i60.nargs) : ev (d + 1) 60 args = Ev.finish i60.res (evC (ev d) i60.body (Ev.start args)) := ev_fn rfl d args hl
theorem s62 (d : Nat) (args : List LV) (hl : args.length = i62.nargs) : ev (d + 1) 62 args = Ev.finish i62.res (evC (ev d) i62.body (Ev.start args)) := ev_fn rfl d args hl
theorem s63 (d : Nat) (args : List LV) (hl : args.length = i63.nargs) : ev (d + 1) 63 args = Ev.finish i63.res (evC (ev d) i63.body (Ev.start args)) := ev_fn rfl d args hl
theorem s64 (d : Nat) (args : List LV) (hl : args.length = i64.nargs) : ev (d + 1) 64 args = Ev.finish i64.res (evC (ev d) i64.body (Ev.start args)) := ev_fn rfl d args hl
theorem s65 (d : Nat) (args : List LV) (hl : args.length = i65.nargs) : ev (d + 1) 65 args = Ev.finish i65.res (evC (ev d) i65.body (Ev.start args)) := ev_fn rfl d args hl
theorem s66 (d : Nat) (args : List LV) (hl : args.length = i66.nargs) : ev (d + 1) 66 args = Ev.finish i66.res (evC (ev d) i66.body (Ev.start args)) := ev_fn rfl d args hl
theorem s67 (d : Nat) (args : List LV) (hl : args.length = i67.nargs) : ev (d + 1) 67 args = Ev.finish i67.res (evC (ev d) i67.body (Ev.start args)) := ev_fn rfl d args hl
theorem s72 (d : Nat) (args : List LV) (hl : args.length = i72.nargs) : ev (d + 1) 72 args = Ev.finish i72.res (evC (ev d) i72.body (Ev.start args)) := ev_fn rfl d args hl
theorem s73 (d : Nat) (args : List LV) (hl : args.length = i73.nargs) : ev (d + 1) 73 args = Ev.finish i73.res (evC (ev d) i73.body (Ev.start args)) := ev_fn rfl d args hl
theorem s74 (d : Nat) (args : List LV) (hl : args.length = i74.nargs) : ev (d + 1) 74 args = Ev.finish i74.res (evC (ev d) i74.body (Ev.start args)) := ev_fn rfl d args hl
end Go.Proofs.Ytjdcohcdgdjobaa.walkV
