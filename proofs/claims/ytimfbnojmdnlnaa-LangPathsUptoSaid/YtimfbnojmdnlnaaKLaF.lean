/- The functions that these laws reach, as the abstract machine reads them. Printed by program (genf.py). -/
import Derived.Test.YtimfbnojmdnlnaaKM1
set_option maxRecDepth 100000
namespace Go.Proofs.Ytimfbnojmdnlnaa
namespace AM
/-- headland/headlandlaw10.LangPaths -/
def c4 : ACode :=
 .seq (.reg [
   .seq ⟨some 1, .box 3 (.t 0), none⟩,
   .seq ⟨some 2, .mv true (.c (.bool false)), none⟩])
 (.seq (.seq (.reg [
   .seq ⟨some 13, .ld false 3 true (.t 1), none⟩,
   .seq ⟨some 14, .call 8 [(.t 13), (.c (.int .i64 3000))], none⟩,
   .seq ⟨some 15, .un .not (.t 14), none⟩])
 (.cond (.t 15)
  (.seq (.reg [
    .seq ⟨some 16, .call 11 [], none⟩,
    .seq ⟨some 2, .mv true (.t 16), none⟩])
  (.ret))
  (.nop)))
 (.seq (.reg [
   .seq ⟨some 18, .ld false 3 true (.t 1), none⟩,
   .seq ⟨some 19, .call 12 [(.t 18)], none⟩,
   .seq ⟨some 17, .mv false (.t 19), none⟩,
   .seq ⟨some 20, .ex (.t 17) 0, none⟩,
   .seq ⟨some 21, .ex (.t 17) 1, none⟩,
   .seq ⟨some 3, .mv true (.t 20), none⟩,
   .seq ⟨some 4, .mv true (.t 21), none⟩])
 (.seq (.seq (.reg [
   .seq ⟨some 22, .mv false (.t 3), none⟩,
   .seq ⟨some 23, .len false (.t 22), none⟩,
   .seq ⟨some 24, .mv false (.c (.int .i64 0)), none⟩])
 (.blk 0
  (.loop (.seq (.reg [
    .seq ⟨some 25, .bin .lss 0 (.t 24) (.t 23), none⟩])
  (.seq (.cond (.t 25)
   (.nop)
   (.exit 0))
  (.seq (.blk 1
   (.seq (.reg [
     .seq ⟨some 26, .mv false (.t 24), none⟩,
     .seq ⟨some 27, .ia 22 (.t 22) (.t 24), none⟩,
     .seq ⟨some 28, .ld false 22 true (.t 27), none⟩,
     .seq ⟨some 6, .al [.slice .nil [], .slice .nil [], .int .i64 0, .str ⟨#[]⟩, .slice .nil [], .slice .nil [], .int .i64 0, .int .i64 0, .int .i64 0, .slice .nil [], .int .i64 0, .slice .nil [], .int .i64 0, .int .i64 0, .slice .nil [], .int .i64 0, .int .i64 0, .slice .nil [], .slice .nil [], .slice .nil [], .slice .nil [], .slice .nil []], none⟩,
     .seq ⟨some 5, .mv true (.t 26), none⟩,
     .seq ⟨none, .st 22 (.t 6) (.t 28), none⟩])
   (.seq (.reg [
     .seq ⟨some 30, .ld false 3 true (.t 1), none⟩,
     .seq ⟨some 31, .fa 0 (.t 6), none⟩,
     .seq ⟨some 32, .ld false 1 false (.t 31), none⟩,
     .seq ⟨some 33, .call 13 [(.t 30), (.t 32)], none⟩,
     .seq ⟨some 29, .mv false (.t 33), none⟩,
     .seq ⟨some 34, .ex (.t 29) 0, none⟩,
     .seq ⟨some 35, .ex (.t 29) 1, none⟩,
     .seq ⟨some 7, .al [.int .i64 0, .str ⟨#[]⟩, .slice .nil [], .slice .nil [], .int .i64 0, .int .i64 0, .int .i64 0, .slice .nil [], .int .i64 0, .slice .nil [], .int .i64 0, .int .i64 0, .slice .nil [], .int .i64 0, .int .i64 0, .slice .nil [], .slice .nil [], .slice .nil [], .slice .nil []], none⟩,
     .seq ⟨none, .st 19 (.t 7) (.t 34), none⟩,
     .seq ⟨some 8, .mv true (.t 35), none⟩])
   (.seq (.reg [
     .seq ⟨some 37, .ld false 3 true (.t 1), none⟩,
     .seq ⟨some 38, .fa 0 (.t 6), none⟩,
     .seq ⟨some 39, .ld false 1 false (.t 38), none⟩,
     .seq ⟨some 40, .call 14 [(.t 37), (.t 39)], none⟩,
     .seq ⟨some 36, .mv false (.t 40), none⟩,
     .seq ⟨some 41, .ex (.t 36) 0, none⟩,
     .seq ⟨some 42, .ex (.t 36) 1, none⟩,
     .seq ⟨some 9, .mv true (.t 41), none⟩,
     .seq ⟨some 10, .mv true (.t 42), none⟩])
   (.seq (.seq (.reg [
     .seq ⟨some 43, .mv false (.t 4), none⟩,
     .seq ⟨some 44, .bin .neq 0 (.t 43) (.c (.int .i64 0)), none⟩,
     .seq ⟨some 45, .mv false (.t 44), none⟩,
     .seq ⟨some 46, .mv false (.t 8), some (45, false)⟩,
     .seq ⟨some 47, .bin .neq 0 (.t 46) (.c (.int .i64 0)), some (45, false)⟩,
     .seq ⟨some 48, .pick (.t 45) (.c (.bool true)) (.t 47), none⟩,
     .seq ⟨some 49, .mv false (.t 48), none⟩,
     .seq ⟨some 50, .mv false (.t 10), some (49, false)⟩,
     .seq ⟨some 51, .bin .neq 0 (.t 50) (.c (.int .i64 0)), some (49, false)⟩,
     .seq ⟨some 52, .pick (.t 49) (.c (.bool true)) (.t 51), none⟩,
     .seq ⟨some 53, .mv false (.t 52), none⟩,
     .seq ⟨some 54, .fa 0 (.t 7), some (53, false)⟩,
     .seq ⟨some 55, .ld false 1 false (.t 54), some (53, false)⟩,
     .seq ⟨some 56, .bin .neq 0 (.t 55) (.c (.int .i64 3)), some (53, false)⟩,
     .seq ⟨some 57, .pick (.t 53) (.c (.bool true)) (.t 56), none⟩,
     .seq ⟨some 58, .mv false (.t 57), none⟩,
     .seq ⟨some 59, .ld false 19 true (.t 7), some (58, false)⟩,
     .seq ⟨some 60, .fa 2 (.t 6), some (58, false)⟩,
     .seq ⟨some 61, .ld false 19 true (.t 60), some (58, false)⟩,
     .seq ⟨some 62, .call 15 [(.t 59), (.t 61)], some (58, false)⟩,
     .seq ⟨some 63, .un .not (.t 62), some (58, false)⟩,
     .seq ⟨some 64, .pick (.t 58) (.c (.bool true)) (.t 63), none⟩,
     .seq ⟨some 65, .mv false (.t 64), none⟩,
     .seq ⟨some 66, .mv false (.t 9), some (65, false)⟩,
     .seq ⟨some 67, .fa 1 (.t 6), some (65, false)⟩,
     .seq ⟨some 68, .ld false 1 false (.t 67), some (65, false)⟩,
     .seq ⟨some 69, .call 16 [(.t 66), (.t 68)], some (65, false)⟩,
     .seq ⟨some 70, .un .not (.t 69), some (65, false)⟩,
     .seq ⟨some 71, .pick (.t 65) (.c (.bool true)) (.t 70), none⟩])
   (.cond (.t 71)
    (.seq (.reg [
      .seq ⟨some 2, .mv true (.c (.bool false)), none⟩])
    (.ret))
    (.nop)))
   (.seq (.reg [
     .seq ⟨some 72, .mv false (.t 5), none⟩,
     .seq ⟨some 73, .bin .gtr 0 (.t 72) (.c (.int .i64 0)), none⟩])
   (.cond (.t 73)
    (.seq (.reg [
      .seq ⟨some 74, .mv false (.t 3), none⟩,
      .seq ⟨some 75, .mv false (.t 5), none⟩,
      .seq ⟨some 76, .bin .sub 0 (.t 75) (.c (.int .i64 1)), none⟩,
      .seq ⟨some 77, .ia 22 (.t 74) (.t 76), none⟩,
      .seq ⟨some 78, .fa 0 (.t 77), none⟩,
      .seq ⟨some 79, .ld false 1 false (.t 78), none⟩,
      .seq ⟨some 11, .mv true (.t 79), none⟩])
    (.seq (.reg [
      .seq ⟨some 80, .mv false (.t 11), none⟩,
      .seq ⟨some 81, .len false (.t 80), none⟩,
      .seq ⟨some 82, .fa 0 (.t 6), none⟩,
      .seq ⟨some 83, .ld false 1 false (.t 82), none⟩,
      .seq ⟨some 84, .len false (.t 83), none⟩,
      .seq ⟨some 85, .mm false (.t 81) (.t 84), none⟩,
      .seq ⟨some 12, .mv true (.t 85), none⟩])
    (.seq (.reg [
      .free [⟨some 86, .mv false (.t 11), none⟩, ⟨some 87, .mv false (.t 12), none⟩, ⟨some 88, .cut 1 (.t 86) none (some (.t 87)), none⟩, ⟨some 89, .fa 0 (.t 6), none⟩, ⟨some 90, .ld false 1 false (.t 89), none⟩, ⟨some 91, .mv false (.t 12), none⟩, ⟨some 92, .cut 1 (.t 90) none (some (.t 91)), none⟩],
      .seq ⟨some 93, .call 17 [(.t 88), (.t 92)], none⟩,
      .seq ⟨some 94, .bin .geq 0 (.t 93) (.c (.int .i64 0)), none⟩])
    (.cond (.t 94)
     (.seq (.reg [
       .seq ⟨some 2, .mv true (.c (.bool false)), none⟩])
     (.ret))
     (.nop)))))
    (.nop))))))))
  (.reg [
    .seq ⟨some 95, .bin .add 0 (.t 24) (.c (.int .i64 1)), none⟩,
    .seq ⟨some 24, .mv false (.t 95), none⟩])))))))
 (.seq (.reg [
   .seq ⟨some 96, .call 11 [], none⟩,
   .seq ⟨some 2, .mv true (.t 96), none⟩])
 (.ret)))))
def a4 : AFunc := ⟨1, 97, [.t 2], c4, false⟩
/-- headland/headlandref10.Few -/
def c8 : ACode :=
 .seq (.reg [
   .seq ⟨some 2, .box 3 (.t 0), none⟩,
   .seq ⟨some 4, .mv true (.c (.bool false)), none⟩])
 (.seq (.reg [
   .seq ⟨some 8, .fa 0 (.t 2), none⟩,
   .seq ⟨some 9, .ld false 1 false (.t 8), none⟩,
   .seq ⟨some 10, .len false (.t 9), none⟩,
   .seq ⟨some 5, .mv true (.t 10), none⟩])
 (.seq (.seq (.reg [
   .seq ⟨some 11, .fa 1 (.t 2), none⟩,
   .seq ⟨some 12, .ld false 1 false (.t 11), none⟩,
   .seq ⟨some 13, .len false (.t 12), none⟩,
   .seq ⟨some 14, .mv false (.c (.int .i64 0)), none⟩])
 (.blk 0
  (.loop (.seq (.reg [
    .seq ⟨some 15, .bin .lss 0 (.t 14) (.t 13), none⟩])
  (.seq (.cond (.t 15)
   (.nop)
   (.exit 0))
  (.seq (.blk 1
   (.seq (.reg [
     .seq ⟨some 16, .ia 2 (.t 12) (.t 14), none⟩,
     .seq ⟨some 17, .ld false 2 true (.t 16), none⟩,
     .seq ⟨some 7, .al [.str ⟨#[]⟩, .slice .nil []], none⟩,
     .seq ⟨none, .st 2 (.t 7) (.t 17), none⟩])
   (.reg [
     .seq ⟨some 18, .mv false (.t 5), none⟩,
     .seq ⟨some 19, .fa 1 (.t 7), none⟩,
     .seq ⟨some 20, .ld false 1 false (.t 19), none⟩,
     .seq ⟨some 21, .len false (.t 20), none⟩,
     .seq ⟨some 22, .bin .add 0 (.c (.int .i64 1)) (.t 21), none⟩,
     .seq ⟨some 23, .bin .add 0 (.t 18) (.t 22), none⟩,
     .seq ⟨some 5, .mv true (.t 23), none⟩])))
  (.reg [
    .seq ⟨some 24, .bin .add 0 (.t 14) (.c (.int .i64 1)), none⟩,
    .seq ⟨some 14, .mv false (.t 24), none⟩])))))))
 (.seq (.reg [
   .seq ⟨some 25, .mv false (.t 5), none⟩,
   .seq ⟨some 26, .mv false (.t 1), none⟩,
   .seq ⟨some 27, .bin .leq 0 (.t 25) (.t 26), none⟩,
   .seq ⟨some 28, .mv false (.t 27), none⟩,
   .seq ⟨some 29, .mv false (.t 5), some (28, true)⟩,
   .seq ⟨some 30, .fa 2 (.t 2), some (28, true)⟩,
   .seq ⟨some 31, .ld false 1 false (.t 30), some (28, true)⟩,
   .seq ⟨some 32, .mv false (.t 1), some (28, true)⟩,
   .seq ⟨some 33, .mv false (.t 5), some (28, true)⟩,
   .seq ⟨some 34, .bin .sub 0 (.t 32) (.t 33), some (28, true)⟩,
   .seq ⟨some 35, .call 28 [(.t 31), (.t 34)], some (28, true)⟩,
   .seq ⟨some 36, .bin .add 0 (.t 29) (.t 35), some (28, true)⟩,
   .seq ⟨some 37, .mv false (.t 1), some (28, true)⟩,
   .seq ⟨some 38, .bin .leq 0 (.t 36) (.t 37), some (28, true)⟩,
   .seq ⟨some 39, .pick (.t 28) (.t 38) (.c (.bool false)), none⟩,
   .seq ⟨some 4, .mv true (.t 39), none⟩])
 (.ret))))
def a8 : AFunc := ⟨2, 40, [.t 4], c8, false⟩
/-- headland/headlandlaw10.awake -/
def c11 : ACode :=
 .seq (.reg [
   .seq ⟨some 0, .mv true (.c (.bool false)), none⟩])
 (.seq (.reg [
   .seq ⟨some 4, .call 34 [], none⟩,
   .seq ⟨some 5, .call 12 [(.t 4)], none⟩,
   .seq ⟨some 3, .mv false (.t 5), none⟩,
   .seq ⟨some 6, .ex (.t 3) 0, none⟩,
   .seq ⟨some 7, .ex (.t 3) 1, none⟩,
   .seq ⟨some 1, .mv true (.t 6), none⟩,
   .seq ⟨some 2, .mv true (.t 7), none⟩])
 (.seq (.reg [
   .seq ⟨some 8, .mv false (.t 2), none⟩,
   .seq ⟨some 9, .bin .eql 0 (.t 8) (.c (.int .i64 0)), none⟩,
   .seq ⟨some 10, .mv false (.t 9), none⟩,
   .seq ⟨some 11, .mv false (.t 1), some (10, true)⟩,
   .seq ⟨some 12, .len false (.t 11), some (10, true)⟩,
   .seq ⟨some 13, .bin .eql 0 (.t 12) (.c (.int .i64 1)), some (10, true)⟩,
   .seq ⟨some 14, .pick (.t 10) (.t 13) (.c (.bool false)), none⟩,
   .seq ⟨some 15, .mv false (.t 14), none⟩,
   .seq ⟨some 16, .mv false (.t 1), some (15, true)⟩,
   .seq ⟨some 17, .ia 22 (.t 16) (.c (.int .i64 0)), some (15, true)⟩,
   .seq ⟨some 18, .fa 0 (.t 17), some (15, true)⟩,
   .seq ⟨some 19, .ld false 1 false (.t 18), some (15, true)⟩,
   .seq ⟨some 20, .row 3 1 [(.c (.int .i64 0)), (.c (.int .i64 0)), (.c (.int .i64 0))], some (15, true)⟩,
   .seq ⟨some 21, .call 35 [(.t 19), (.t 20)], some (15, true)⟩,
   .seq ⟨some 22, .pick (.t 15) (.t 21) (.c (.bool false)), none⟩,
   .seq ⟨some 23, .mv false (.t 22), none⟩,
   .seq ⟨some 24, .mv false (.t 1), some (23, true)⟩,
   .seq ⟨some 25, .ia 22 (.t 24) (.c (.int .i64 0)), some (23, true)⟩,
   .seq ⟨some 26, .fa 1 (.t 25), some (23, true)⟩,
   .seq ⟨some 27, .ld false 1 false (.t 26), some (23, true)⟩,
   .seq ⟨some 28, .row 9 1 [(.c (.str ⟨#[110]⟩)), (.c (.str ⟨#[105]⟩))], some (23, true)⟩,
   .seq ⟨some 29, .call 16 [(.t 27), (.t 28)], some (23, true)⟩,
   .seq ⟨some 30, .pick (.t 23) (.t 29) (.c (.bool false)), none⟩,
   .seq ⟨some 31, .mv false (.t 30), none⟩,
   .seq ⟨some 32, .mv false (.t 1), some (31, true)⟩,
   .seq ⟨some 33, .ia 22 (.t 32) (.c (.int .i64 0)), some (31, true)⟩,
   .seq ⟨some 34, .fa 21 (.t 33), some (31, true)⟩,
   .seq ⟨some 35, .ld false 1 false (.t 34), some (31, true)⟩,
   .seq ⟨some 36, .len false (.t 35), some (31, true)⟩,
   .seq ⟨some 37, .bin .eql 0 (.t 36) (.c (.int .i64 1)), some (31, true)⟩,
   .seq ⟨some 38, .pick (.t 31) (.t 37) (.c (.bool false)), none⟩,
   .seq ⟨some 39, .mv false (.t 38), none⟩,
   .seq ⟨some 40, .call 34 [], some (39, true)⟩,
   .seq ⟨some 41, .call 9 [(.t 40)], some (39, true)⟩,
   .seq ⟨some 42, .bin .eql 0 (.t 41) (.c (.int .i64 0)), some (39, true)⟩,
   .seq ⟨some 43, .pick (.t 39) (.t 42) (.c (.bool false)), none⟩,
   .seq ⟨some 0, .mv true (.t 43), none⟩])
 (.ret)))
def a11 : AFunc := ⟨0, 44, [.t 0], c11, false⟩
/-- headland/lang.Assigns -/
def c12 : ACode :=
 .seq (.reg [
   .seq ⟨some 1, .box 3 (.t 0), none⟩,
   .seq ⟨some 2, .mv true (.c (.slice .nil [])), none⟩,
   .seq ⟨some 3, .mv true (.c (.int .i64 0)), none⟩])
 (.seq (.seq (.reg [
   .seq ⟨some 7, .ld false 3 true (.t 1), none⟩,
   .seq ⟨some 8, .call 9 [(.t 7)], none⟩,
   .seq ⟨some 4, .mv true (.t 8), none⟩])
 (.seq (.reg [
   .seq ⟨some 9, .mv false (.t 4), none⟩,
   .seq ⟨some 10, .bin .neq 0 (.t 9) (.c (.int .i64 0)), none⟩])
 (.cond (.t 10)
  (.seq (.reg [
    .seq ⟨some 11, .mv true (.t 4), none⟩,
    .seq ⟨some 2, .mv true (.c (.slice .nil [])), none⟩,
    .seq ⟨some 3, .mv true (.t 11), none⟩])
  (.ret))
  (.nop))))
 (.seq (.reg [
   .seq ⟨some 5, .al [.slice .nil []], none⟩])
 (.seq (.seq (.reg [
   .seq ⟨some 12, .ld false 3 true (.t 1), none⟩,
   .seq ⟨some 13, .call 36 [(.t 12)], none⟩])
 (.blk 0
  (.rng (.t 13) [14]
   (.reg [
     .seq ⟨some 6, .al [.slice .nil [], .slice .nil [], .int .i64 0, .str ⟨#[]⟩, .slice .nil [], .slice .nil [], .int .i64 0, .int .i64 0, .int .i64 0, .slice .nil [], .int .i64 0, .slice .nil [], .int .i64 0, .int .i64 0, .slice .nil [], .int .i64 0, .int .i64 0, .slice .nil [], .slice .nil [], .slice .nil [], .slice .nil []], none⟩,
     .seq ⟨none, .st 21 (.t 6) (.t 14), none⟩])
   (.blk 1
    (.seq (.reg [
      .seq ⟨some 15, .fa 2 (.t 6), none⟩,
      .seq ⟨some 16, .fa 0 (.t 15), none⟩,
      .seq ⟨some 17, .ld false 1 false (.t 16), none⟩,
      .seq ⟨some 18, .bin .eql 0 (.t 17) (.c (.int .i64 3)), none⟩])
    (.cond (.t 18)
     (.reg [
       .free [⟨some 19, .ld true 1 false (.t 5), none⟩, ⟨some 20, .fa 0 (.t 6), none⟩, ⟨some 21, .ld false 1 false (.t 20), none⟩, ⟨some 22, .fa 1 (.t 6), none⟩, ⟨some 23, .ld false 1 false (.t 22), none⟩, ⟨some 24, .fa 2 (.t 6), none⟩, ⟨some 25, .ld false 19 true (.t 24), none⟩, ⟨some 26, .call 37 [(.t 25)], none⟩, ⟨some 27, .fa 2 (.t 6), none⟩, ⟨some 28, .fa 10 (.t 27), none⟩, ⟨some 29, .ld false 7 true (.t 28), none⟩, ⟨some 30, .call 38 [(.t 29)], none⟩, ⟨some 31, .bld [.slice .nil [], .slice .nil [], .int .i64 0, .str ⟨#[]⟩, .slice .nil [], .slice .nil [], .int .i64 0, .int .i64 0, .int .i64 0, .slice .nil [], .int .i64 0, .slice .nil [], .int .i64 0, .int .i64 0, .slice .nil [], .int .i64 0, .int .i64 0, .slice .nil [], .slice .nil [], .slice .nil [], .slice .nil [], .slice .nil []] [(0, 1, (.t 21)), (1, 1, (.t 23)), (2, 19, (.t 26)), (21, 1, (.t 30))], none⟩, ⟨some 32, .row 54 22 [(.t 31)], none⟩],
       .seq ⟨some 33, .app 54 22 376 (.t 19) (.t 32), none⟩,
       .seq ⟨none, .st 1 (.t 5) (.t 33), none⟩])
     (.nop)))))))
 (.seq (.reg [
   .seq ⟨some 34, .ld true 1 false (.t 5), none⟩,
   .seq ⟨some 2, .mv true (.t 34), none⟩,
   .seq ⟨some 3, .mv true (.c (.int .i64 0)), none⟩])
 (.ret)))))
def a12 : AFunc := ⟨1, 35, [.t 2, .t 3], c12, false⟩
/-- headland/lang.At -/
def c13 : ACode :=
 .seq (.reg [
   .seq ⟨some 2, .box 3 (.t 0), none⟩,
   .seq ⟨some 4, .al [.int .i64 0, .str ⟨#[]⟩, .slice .nil [], .slice .nil [], .int .i64 0, .int .i64 0, .int .i64 0, .slice .nil [], .int .i64 0, .slice .nil [], .int .i64 0, .int .i64 0, .slice .nil [], .int .i64 0, .int .i64 0, .slice .nil [], .slice .nil [], .slice .nil [], .slice .nil []], none⟩,
   .seq ⟨some 5, .mv true (.c (.int .i64 0)), none⟩])
 (.seq (.seq (.reg [
   .seq ⟨some 9, .ld false 3 true (.t 2), none⟩,
   .seq ⟨some 10, .call 9 [(.t 9)], none⟩,
   .seq ⟨some 6, .mv true (.t 10), none⟩])
 (.seq (.reg [
   .seq ⟨some 11, .mv false (.t 6), none⟩,
   .seq ⟨some 12, .bin .neq 0 (.t 11) (.c (.int .i64 0)), none⟩])
 (.cond (.t 12)
  (.seq (.reg [
    .seq ⟨some 13, .bld [.int .i64 0, .str ⟨#[]⟩, .slice .nil [], .slice .nil [], .int .i64 0, .int .i64 0, .int .i64 0, .slice .nil [], .int .i64 0, .slice .nil [], .int .i64 0, .int .i64 0, .slice .nil [], .int .i64 0, .int .i64 0, .slice .nil [], .slice .nil [], .slice .nil [], .slice .nil []] [], none⟩,
    .seq ⟨some 14, .mv true (.t 6), none⟩,
    .seq ⟨none, .st 19 (.t 4) (.t 13), none⟩,
    .seq ⟨some 5, .mv true (.t 14), none⟩])
  (.ret))
  (.nop))))
 (.seq (.reg [
   .seq ⟨some 16, .ld false 3 true (.t 2), none⟩,
   .seq ⟨some 17, .mv false (.t 1), none⟩,
   .seq ⟨some 18, .call 39 [(.t 16), (.t 17)], none⟩,
   .seq ⟨some 15, .mv false (.t 18), none⟩,
   .seq ⟨some 19, .ex (.t 15) 0, none⟩,
   .seq ⟨some 20, .ex (.t 15) 1, none⟩,
   .seq ⟨some 7, .al [.slice .nil [], .slice .nil [], .int .i64 0, .str ⟨#[]⟩, .slice .nil [], .slice .nil [], .int .i64 0, .int .i64 0, .int .i64 0, .slice .nil [], .int .i64 0, .slice .nil [], .int .i64 0, .int .i64 0, .slice .nil [], .int .i64 0, .int .i64 0, .slice .nil [], .slice .nil [], .slice .nil [], .slice .nil []], none⟩,
   .seq ⟨none, .st 21 (.t 7) (.t 19), none⟩,
   .seq ⟨some 8, .mv true (.t 20), none⟩])
 (.seq (.seq (.reg [
   .seq ⟨some 21, .mv false (.t 8), none⟩,
   .seq ⟨some 22, .un .not (.t 21), none⟩])
 (.cond (.t 22)
  (.seq (.reg [
    .seq ⟨some 23, .bld [.int .i64 0, .str ⟨#[]⟩, .slice .nil [], .slice .nil [], .int .i64 0, .int .i64 0, .int .i64 0, .slice .nil [], .int .i64 0, .slice .nil [], .int .i64 0, .int .i64 0, .slice .nil [], .int .i64 0, .int .i64 0, .slice .nil [], .slice .nil [], .slice .nil [], .slice .nil []] [], none⟩,
    .seq ⟨none, .st 19 (.t 4) (.t 23), none⟩,
    .seq ⟨some 5, .mv true (.c (.int .i64 5)), none⟩])
  (.ret))
  (.nop)))
 (.seq (.reg [
   .seq ⟨some 24, .fa 2 (.t 7), none⟩,
   .seq ⟨some 25, .ld false 19 true (.t 24), none⟩,
   .seq ⟨some 26, .call 37 [(.t 25)], none⟩,
   .seq ⟨none, .st 19 (.t 4) (.t 26), none⟩,
   .seq ⟨some 5, .mv true (.c (.int .i64 0)), none⟩])
 (.ret)))))
def a13 : AFunc := ⟨2, 27, [.c 4 19 true, .t 5], c13, false⟩
/-- headland/lang.Space -/
def c14 : ACode :=
 .seq (.reg [
   .seq ⟨some 2, .box 3 (.t 0), none⟩,
   .seq ⟨some 4, .mv true (.c (.slice .nil [])), none⟩,
   .seq ⟨some 5, .mv true (.c (.int .i64 0)), none⟩])
 (.seq (.seq (.reg [
   .seq ⟨some 9, .ld false 3 true (.t 2), none⟩,
   .seq ⟨some 10, .call 9 [(.t 9)], none⟩,
   .seq ⟨some 6, .mv true (.t 10), none⟩])
 (.seq (.reg [
   .seq ⟨some 11, .mv false (.t 6), none⟩,
   .seq ⟨some 12, .bin .neq 0 (.t 11) (.c (.int .i64 0)), none⟩])
 (.cond (.t 12)
  (.seq (.reg [
    .seq ⟨some 13, .mv true (.t 6), none⟩,
    .seq ⟨some 4, .mv true (.c (.slice .nil [])), none⟩,
    .seq ⟨some 5, .mv true (.t 13), none⟩])
  (.ret))
  (.nop))))
 (.seq (.reg [
   .seq ⟨some 15, .ld false 3 true (.t 2), none⟩,
   .seq ⟨some 16, .mv false (.t 1), none⟩,
   .seq ⟨some 17, .call 39 [(.t 15), (.t 16)], none⟩,
   .seq ⟨some 14, .mv false (.t 17), none⟩,
   .seq ⟨some 18, .ex (.t 14) 0, none⟩,
   .seq ⟨some 19, .ex (.t 14) 1, none⟩,
   .seq ⟨some 7, .al [.slice .nil [], .slice .nil [], .int .i64 0, .str ⟨#[]⟩, .slice .nil [], .slice .nil [], .int .i64 0, .int .i64 0, .int .i64 0, .slice .nil [], .int .i64 0, .slice .nil [], .int .i64 0, .int .i64 0, .slice .nil [], .int .i64 0, .int .i64 0, .slice .nil [], .slice .nil [], .slice .nil [], .slice .nil []], none⟩,
   .seq ⟨none, .st 21 (.t 7) (.t 18), none⟩,
   .seq ⟨some 8, .mv true (.t 19), none⟩])
 (.seq (.seq (.reg [
   .seq ⟨some 20, .mv false (.t 8), none⟩,
   .seq ⟨some 21, .un .not (.t 20), none⟩])
 (.cond (.t 21)
  (.seq (.reg [
    .seq ⟨some 4, .mv true (.c (.slice .nil [])), none⟩,
    .seq ⟨some 5, .mv true (.c (.int .i64 5)), none⟩])
  (.ret))
  (.nop)))
 (.seq (.reg [
   .seq ⟨some 22, .fa 1 (.t 7), none⟩,
   .seq ⟨some 23, .ld true 1 false (.t 22), none⟩,
   .seq ⟨some 4, .mv true (.t 23), none⟩,
   .seq ⟨some 5, .mv true (.c (.int .i64 0)), none⟩])
 (.ret)))))
def a14 : AFunc := ⟨2, 24, [.t 4, .t 5], c14, false⟩
/-- headland/headlandref10.SameStmt -/
def c15 : ACode :=
 .seq (.reg [
   .seq ⟨some 2, .box 19 (.t 0), none⟩,
   .seq ⟨some 3, .box 19 (.t 1), none⟩,
   .seq ⟨some 4, .mv true (.c (.bool false)), none⟩])
 (.seq (.reg [
   .seq ⟨some 5, .fa 0 (.t 2), none⟩,
   .seq ⟨some 6, .ld false 1 false (.t 5), none⟩,
   .seq ⟨some 7, .fa 0 (.t 3), none⟩,
   .seq ⟨some 8, .ld false 1 false (.t 7), none⟩,
   .seq ⟨some 9, .bin .eql 0 (.t 6) (.t 8), none⟩,
   .seq ⟨some 10, .mv false (.t 9), none⟩,
   .seq ⟨some 11, .fa 1 (.t 2), some (10, true)⟩,
   .seq ⟨some 12, .ld false 1 false (.t 11), some (10, true)⟩,
   .seq ⟨some 13, .fa 1 (.t 3), some (10, true)⟩,
   .seq ⟨some 14, .ld false 1 false (.t 13), some (10, true)⟩,
   .seq ⟨some 15, .bin .eql 0 (.t 12) (.t 14), some (10, true)⟩,
   .seq ⟨some 16, .pick (.t 10) (.t 15) (.c (.bool false)), none⟩,
   .seq ⟨some 17, .mv false (.t 16), none⟩,
   .seq ⟨some 18, .fa 2 (.t 2), some (17, true)⟩,
   .seq ⟨some 19, .ld false 1 true (.t 18), some (17, true)⟩,
   .seq ⟨some 20, .fa 2 (.t 3), some (17, true)⟩,
   .seq ⟨some 21, .ld false 1 true (.t 20), some (17, true)⟩,
   .seq ⟨some 22, .call 40 [(.t 19), (.t 21)], some (17, true)⟩,
   .seq ⟨some 23, .pick (.t 17) (.t 22) (.c (.bool false)), none⟩,
   .seq ⟨some 24, .mv false (.t 23), none⟩,
   .seq ⟨some 25, .fa 3 (.t 2), some (24, true)⟩,
   .seq ⟨some 26, .ld false 1 true (.t 25), some (24, true)⟩,
   .seq ⟨some 27, .fa 3 (.t 3), some (24, true)⟩,
   .seq ⟨some 28, .ld false 1 true (.t 27), some (24, true)⟩,
   .seq ⟨some 29, .call 40 [(.t 26), (.t 28)], some (24, true)⟩,
   .seq ⟨some 30, .pick (.t 24) (.t 29) (.c (.bool false)), none⟩,
   .seq ⟨some 31, .mv false (.t 30), none⟩,
   .seq ⟨some 32, .fa 4 (.t 2), some (31, true)⟩,
   .seq ⟨some 33, .ld false 1 false (.t 32), some (31, true)⟩,
   .seq ⟨some 34, .fa 4 (.t 3), some (31, true)⟩,
   .seq ⟨some 35, .ld false 1 false (.t 34), some (31, true)⟩,
   .seq ⟨some 36, .bin .eql 0 (.t 33) (.t 35), some (31, true)⟩,
   .seq ⟨some 37, .pick (.t 31) (.t 36) (.c (.bool false)), none⟩,
   .seq ⟨some 38, .mv false (.t 37), none⟩,
   .seq ⟨some 39, .fa 5 (.t 2), some (38, true)⟩,
   .seq ⟨some 40, .ld false 1 false (.t 39), some (38, true)⟩,
   .seq ⟨some 41, .fa 5 (.t 3), some (38, true)⟩,
   .seq ⟨some 42, .ld false 1 false (.t 41), some (38, true)⟩,
   .seq ⟨some 43, .bin .eql 0 (.t 40) (.t 42), some (38, true)⟩,
   .seq ⟨some 44, .pick (.t 38) (.t 43) (.c (.bool false)), none⟩,
   .seq ⟨some 45, .mv false (.t 44), none⟩,
   .seq ⟨some 46, .fa 6 (.t 2), some (45, true)⟩,
   .seq ⟨some 47, .ld false 2 true (.t 46), some (45, true)⟩,
   .seq ⟨some 48, .fa 6 (.t 3), some (45, true)⟩,
   .seq ⟨some 49, .ld false 2 true (.t 48), some (45, true)⟩,
   .seq ⟨some 50, .call 41 [(.t 47), (.t 49)], some (45, true)⟩,
   .seq ⟨some 51, .pick (.t 45) (.t 50) (.c (.bool false)), none⟩,
   .seq ⟨some 52, .mv false (.t 51), none⟩,
   .seq ⟨some 53, .fa 8 (.t 2), some (52, true)⟩,
   .seq ⟨some 54, .ld false 2 true (.t 53), some (52, true)⟩,
   .seq ⟨some 55, .fa 8 (.t 3), some (52, true)⟩,
   .seq ⟨some 56, .ld false 2 true (.t 55), some (52, true)⟩,
   .seq ⟨some 57, .call 42 [(.t 54), (.t 56)], some (52, true)⟩,
   .seq ⟨some 58, .pick (.t 52) (.t 57) (.c (.bool false)), none⟩,
   .seq ⟨some 59, .mv false (.t 58), none⟩,
   .seq ⟨some 60, .fa 10 (.t 2), some (59, true)⟩,
   .seq ⟨some 61, .ld false 7 true (.t 60), some (59, true)⟩,
   .seq ⟨some 62, .fa 10 (.t 3), some (59, true)⟩,
   .seq ⟨some 63, .ld false 7 true (.t 62), some (59, true)⟩,
   .seq ⟨some 64, .call 43 [(.t 61), (.t 63)], some (59, true)⟩,
   .seq ⟨some 65, .pick (.t 59) (.t 64) (.c (.bool false)), none⟩,
   .seq ⟨some 66, .mv false (.t 65), none⟩,
   .seq ⟨some 67, .fa 17 (.t 2), some (66, true)⟩,
   .seq ⟨some 68, .ld false 1 false (.t 67), some (66, true)⟩,
   .seq ⟨some 69, .fa 17 (.t 3), some (66, true)⟩,
   .seq ⟨some 70, .ld false 1 false (.t 69), some (66, true)⟩,
   .seq ⟨some 71, .call 44 [(.t 68), (.t 70)], some (66, true)⟩,
   .seq ⟨some 72, .pick (.t 66) (.t 71) (.c (.bool false)), none⟩,
   .seq ⟨some 73, .mv false (.t 72), none⟩,
   .seq ⟨some 74, .fa 18 (.t 2), some (73, true)⟩,
   .seq ⟨some 75, .ld false 1 false (.t 74), some (73, true)⟩,
   .seq ⟨some 76, .fa 18 (.t 3), some (73, true)⟩,
   .seq ⟨some 77, .ld false 1 false (.t 76), some (73, true)⟩,
   .seq ⟨some 78, .call 44 [(.t 75), (.t 77)], some (73, true)⟩,
   .seq ⟨some 79, .pick (.t 73) (.t 78) (.c (.bool false)), none⟩,
   .seq ⟨some 4, .mv true (.t 79), none⟩])
 (.ret))
def a15 : AFunc := ⟨2, 80, [.t 4], c15, false⟩
/-- headland/headlandref10.SameNames -/
def c16 : ACode :=
 .seq (.reg [
   .seq ⟨some 4, .mv true (.c (.bool false)), none⟩])
 (.seq (.seq (.reg [
   .seq ⟨some 6, .mv false (.t 0), none⟩,
   .seq ⟨some 7, .len false (.t 6), none⟩,
   .seq ⟨some 8, .mv false (.t 1), none⟩,
   .seq ⟨some 9, .len false (.t 8), none⟩,
   .seq ⟨some 10, .bin .neq 0 (.t 7) (.t 9), none⟩])
 (.cond (.t 10)
  (.seq (.reg [
    .seq ⟨some 4, .mv true (.c (.bool false)), none⟩])
  (.ret))
  (.nop)))
 (.seq (.seq (.reg [
   .seq ⟨some 11, .mv false (.t 0), none⟩,
   .seq ⟨some 12, .len false (.t 11), none⟩,
   .seq ⟨some 13, .mv false (.c (.int .i64 0)), none⟩])
 (.blk 0
  (.loop (.seq (.reg [
    .seq ⟨some 14, .bin .lss 0 (.t 13) (.t 12), none⟩])
  (.seq (.cond (.t 14)
   (.nop)
   (.exit 0))
  (.seq (.blk 1
   (.seq (.reg [
     .seq ⟨some 15, .mv false (.t 13), none⟩,
     .seq ⟨some 5, .mv true (.t 15), none⟩])
   (.seq (.reg [
     .free [⟨some 16, .mv false (.t 0), none⟩, ⟨some 17, .mv false (.t 5), none⟩, ⟨some 18, .ia 1 (.t 16) (.t 17), none⟩, ⟨some 19, .ld false 1 false (.t 18), none⟩, ⟨some 20, .mv false (.t 1), none⟩, ⟨some 21, .mv false (.t 5), none⟩, ⟨some 22, .ia 1 (.t 20) (.t 21), none⟩, ⟨some 23, .ld false 1 false (.t 22), none⟩],
     .seq ⟨some 24, .bin .neq 0 (.t 19) (.t 23), none⟩])
   (.cond (.t 24)
    (.seq (.reg [
      .seq ⟨some 4, .mv true (.c (.bool false)), none⟩])
    (.ret))
    (.nop)))))
  (.reg [
    .seq ⟨some 25, .bin .add 0 (.t 13) (.c (.int .i64 1)), none⟩,
    .seq ⟨some 13, .mv false (.t 25), none⟩])))))))
 (.seq (.reg [
   .seq ⟨some 4, .mv true (.c (.bool true)), none⟩])
 (.ret))))
def a16 : AFunc := ⟨2, 26, [.t 4], c16, false⟩
/-- headland/headlandref02.Order -/
def c17 : ACode :=
 .seq (.reg [
   .seq ⟨some 4, .mv true (.c (.int .i64 0)), none⟩])
 (.seq (.seq (.reg [
   .seq ⟨some 6, .mv false (.t 0), none⟩,
   .seq ⟨some 7, .len false (.t 6), none⟩,
   .seq ⟨some 8, .mv false (.c (.int .i64 0)), none⟩])
 (.blk 0
  (.loop (.seq (.reg [
    .seq ⟨some 9, .bin .lss 0 (.t 8) (.t 7), none⟩])
  (.seq (.cond (.t 9)
   (.nop)
   (.exit 0))
  (.seq (.blk 1
   (.seq (.reg [
     .seq ⟨some 10, .mv false (.t 8), none⟩,
     .seq ⟨some 5, .mv true (.t 10), none⟩])
   (.blk 2
    (.seq (.reg [
      .free [⟨some 12, .mv false (.t 0), none⟩, ⟨some 13, .mv false (.t 5), none⟩, ⟨some 14, .ia 1 (.t 12) (.t 13), none⟩, ⟨some 15, .ld false 1 false (.t 14), none⟩, ⟨some 16, .mv false (.t 1), none⟩, ⟨some 17, .mv false (.t 5), none⟩, ⟨some 18, .ia 1 (.t 16) (.t 17), none⟩, ⟨some 19, .ld false 1 false (.t 18), none⟩],
      .seq ⟨some 20, .bin .lss 0 (.t 15) (.t 19), none⟩,
      .seq ⟨some 11, .mv true (.t 20), none⟩])
    (.cond (.t 11)
     (.seq (.reg [
       .seq ⟨some 4, .mv true (.c (.int .i64 (-1))), none⟩])
     (.ret))
     (.seq (.reg [
       .free [⟨some 22, .mv false (.t 0), none⟩, ⟨some 23, .mv false (.t 5), none⟩, ⟨some 24, .ia 1 (.t 22) (.t 23), none⟩, ⟨some 25, .ld false 1 false (.t 24), none⟩, ⟨some 26, .mv false (.t 1), none⟩, ⟨some 27, .mv false (.t 5), none⟩, ⟨some 28, .ia 1 (.t 26) (.t 27), none⟩, ⟨some 29, .ld false 1 false (.t 28), none⟩],
       .seq ⟨some 30, .bin .gtr 0 (.t 25) (.t 29), none⟩,
       .seq ⟨some 21, .mv true (.t 30), none⟩])
     (.cond (.t 21)
      (.seq (.reg [
        .seq ⟨some 4, .mv true (.c (.int .i64 1)), none⟩])
      (.ret))
      (.nop))))))))
  (.reg [
    .seq ⟨some 31, .bin .add 0 (.t 8) (.c (.int .i64 1)), none⟩,
    .seq ⟨some 8, .mv false (.t 31), none⟩])))))))
 (.seq (.reg [
   .seq ⟨some 4, .mv true (.c (.int .i64 0)), none⟩])
 (.ret)))
def a17 : AFunc := ⟨2, 32, [.t 4], c17, false⟩
/-- headland/headlandref10.Same -/
def c19 : ACode :=
 .seq (.reg [
   .seq ⟨some 2, .box 3 (.t 0), none⟩,
   .seq ⟨some 3, .box 3 (.t 1), none⟩,
   .seq ⟨some 4, .mv true (.c (.bool false)), none⟩])
 (.seq (.seq (.reg [
   .seq ⟨some 6, .fa 0 (.t 2), none⟩,
   .seq ⟨some 7, .ld false 1 false (.t 6), none⟩,
   .seq ⟨some 8, .fa 0 (.t 3), none⟩,
   .seq ⟨some 9, .ld false 1 false (.t 8), none⟩,
   .seq ⟨some 10, .call 16 [(.t 7), (.t 9)], none⟩,
   .seq ⟨some 11, .un .not (.t 10), none⟩,
   .seq ⟨some 12, .mv false (.t 11), none⟩,
   .seq ⟨some 13, .fa 1 (.t 2), some (12, false)⟩,
   .seq ⟨some 14, .ld false 1 false (.t 13), some (12, false)⟩,
   .seq ⟨some 15, .len false (.t 14), some (12, false)⟩,
   .seq ⟨some 16, .fa 1 (.t 3), some (12, false)⟩,
   .seq ⟨some 17, .ld false 1 false (.t 16), some (12, false)⟩,
   .seq ⟨some 18, .len false (.t 17), some (12, false)⟩,
   .seq ⟨some 19, .bin .neq 0 (.t 15) (.t 18), some (12, false)⟩,
   .seq ⟨some 20, .pick (.t 12) (.c (.bool true)) (.t 19), none⟩,
   .seq ⟨some 21, .mv false (.t 20), none⟩,
   .seq ⟨some 22, .fa 2 (.t 2), some (21, false)⟩,
   .seq ⟨some 23, .ld false 1 false (.t 22), some (21, false)⟩,
   .seq ⟨some 24, .fa 2 (.t 3), some (21, false)⟩,
   .seq ⟨some 25, .ld false 1 false (.t 24), some (21, false)⟩,
   .seq ⟨some 26, .call 44 [(.t 23), (.t 25)], some (21, false)⟩,
   .seq ⟨some 27, .un .not (.t 26), some (21, false)⟩,
   .seq ⟨some 28, .pick (.t 21) (.c (.bool true)) (.t 27), none⟩])
 (.cond (.t 28)
  (.seq (.reg [
    .seq ⟨some 4, .mv true (.c (.bool false)), none⟩])
  (.ret))
  (.nop)))
 (.seq (.seq (.reg [
   .seq ⟨some 29, .fa 1 (.t 2), none⟩,
   .seq ⟨some 30, .ld false 1 false (.t 29), none⟩,
   .seq ⟨some 31, .len false (.t 30), none⟩,
   .seq ⟨some 32, .mv false (.c (.int .i64 0)), none⟩])
 (.blk 0
  (.loop (.seq (.reg [
    .seq ⟨some 33, .bin .lss 0 (.t 32) (.t 31), none⟩])
  (.seq (.cond (.t 33)
   (.nop)
   (.exit 0))
  (.seq (.blk 1
   (.seq (.reg [
     .seq ⟨some 34, .mv false (.t 32), none⟩,
     .seq ⟨some 5, .mv true (.t 34), none⟩])
   (.seq (.reg [
     .free [⟨some 35, .fa 1 (.t 2), none⟩, ⟨some 36, .ld false 1 false (.t 35), none⟩, ⟨some 37, .mv false (.t 5), none⟩, ⟨some 38, .ia 2 (.t 36) (.t 37), none⟩, ⟨some 39, .fa 0 (.t 38), none⟩, ⟨some 40, .ld false 1 false (.t 39), none⟩, ⟨some 41, .fa 1 (.t 3), none⟩, ⟨some 42, .ld false 1 false (.t 41), none⟩, ⟨some 43, .mv false (.t 5), none⟩, ⟨some 44, .ia 2 (.t 42) (.t 43), none⟩, ⟨some 45, .fa 0 (.t 44), none⟩, ⟨some 46, .ld false 1 false (.t 45), none⟩],
     .seq ⟨some 47, .bin .neq 0 (.t 40) (.t 46), none⟩,
     .seq ⟨some 48, .mv false (.t 47), none⟩,
     .free [⟨some 49, .fa 1 (.t 2), some (48, false)⟩, ⟨some 50, .ld false 1 false (.t 49), some (48, false)⟩, ⟨some 51, .mv false (.t 5), some (48, false)⟩, ⟨some 52, .ia 2 (.t 50) (.t 51), some (48, false)⟩, ⟨some 53, .fa 1 (.t 52), some (48, false)⟩, ⟨some 54, .ld false 1 false (.t 53), some (48, false)⟩, ⟨some 55, .fa 1 (.t 3), some (48, false)⟩, ⟨some 56, .ld false 1 false (.t 55), some (48, false)⟩, ⟨some 57, .mv false (.t 5), some (48, false)⟩, ⟨some 58, .ia 2 (.t 56) (.t 57), some (48, false)⟩, ⟨some 59, .fa 1 (.t 58), some (48, false)⟩, ⟨some 60, .ld false 1 false (.t 59), some (48, false)⟩],
     .seq ⟨some 61, .call 52 [(.t 54), (.t 60)], some (48, false)⟩,
     .seq ⟨some 62, .un .not (.t 61), some (48, false)⟩,
     .seq ⟨some 63, .pick (.t 48) (.c (.bool true)) (.t 62), none⟩])
   (.cond (.t 63)
    (.seq (.reg [
      .seq ⟨some 4, .mv true (.c (.bool false)), none⟩])
    (.ret))
    (.nop)))))
  (.reg [
    .seq ⟨some 64, .bin .add 0 (.t 32) (.c (.int .i64 1)), none⟩,
    .seq ⟨some 32, .mv false (.t 64), none⟩])))))))
 (.seq (.reg [
   .seq ⟨some 4, .mv true (.c (.bool true)), none⟩])
 (.ret))))
def a19 : AFunc := ⟨2, 65, [.t 4], c19, false⟩
/-- headland/headlandref10.weigh -/
def c28 : ACode :=
 .seq (.reg [
   .seq ⟨some 4, .mv true (.c (.int .i64 0)), none⟩])
 (.seq (.reg [
   .seq ⟨some 5, .mv true (.c (.int .i64 0)), none⟩])
 (.seq (.seq (.reg [
   .seq ⟨some 14, .mv false (.t 0), none⟩,
   .seq ⟨some 15, .len false (.t 14), none⟩,
   .seq ⟨some 16, .mv false (.c (.int .i64 0)), none⟩])
 (.blk 0
  (.loop (.seq (.reg [
    .seq ⟨some 17, .bin .lss 0 (.t 16) (.t 15), none⟩])
  (.seq (.cond (.t 17)
   (.nop)
   (.exit 0))
  (.seq (.blk 1
   (.seq (.reg [
     .seq ⟨some 18, .ia 19 (.t 14) (.t 16), none⟩,
     .seq ⟨some 19, .ld false 19 true (.t 18), none⟩,
     .seq ⟨some 7, .al [.int .i64 0, .str ⟨#[]⟩, .slice .nil [], .slice .nil [], .int .i64 0, .int .i64 0, .int .i64 0, .slice .nil [], .int .i64 0, .slice .nil [], .int .i64 0, .int .i64 0, .slice .nil [], .int .i64 0, .int .i64 0, .slice .nil [], .slice .nil [], .slice .nil [], .slice .nil []], none⟩,
     .seq ⟨none, .st 19 (.t 7) (.t 19), none⟩])
   (.seq (.reg [
     .free [⟨some 20, .mv false (.t 5), none⟩, ⟨some 21, .fa 8 (.t 7), none⟩, ⟨some 22, .fa 1 (.t 21), none⟩, ⟨some 23, .ld false 1 false (.t 22), none⟩, ⟨some 24, .len false (.t 23), none⟩, ⟨some 25, .bin .add 0 (.c (.int .i64 1)) (.t 24), none⟩, ⟨some 26, .fa 10 (.t 7), none⟩, ⟨some 27, .ld false 7 true (.t 26), none⟩, ⟨some 28, .mv false (.t 1), none⟩, ⟨some 29, .call 63 [(.t 27), (.t 28)], none⟩, ⟨some 30, .bin .add 0 (.t 25) (.t 29), none⟩],
     .seq ⟨some 31, .bin .add 0 (.t 20) (.t 30), none⟩,
     .seq ⟨some 5, .mv true (.t 31), none⟩])
   (.seq (.seq (.reg [
     .seq ⟨some 32, .fa 2 (.t 7), none⟩,
     .seq ⟨some 33, .ld false 1 true (.t 32), none⟩,
     .seq ⟨some 34, .fa 3 (.t 7), none⟩,
     .seq ⟨some 35, .ld false 1 true (.t 34), none⟩,
     .seq ⟨some 36, .row 38 1 [(.t 33), (.t 35)], none⟩,
     .seq ⟨some 37, .len false (.t 36), none⟩,
     .seq ⟨some 38, .mv false (.c (.int .i64 0)), none⟩])
   (.blk 2
    (.loop (.seq (.reg [
      .seq ⟨some 39, .bin .lss 0 (.t 38) (.t 37), none⟩])
    (.seq (.cond (.t 39)
     (.nop)
     (.exit 2))
    (.seq (.blk 3
     (.seq (.reg [
       .seq ⟨some 40, .ia 1 (.t 36) (.t 38), none⟩,
       .seq ⟨some 41, .ld false 1 true (.t 40), none⟩,
       .seq ⟨some 9, .al [.slice .nil []], none⟩,
       .seq ⟨none, .st 1 (.t 9) (.t 41), none⟩])
     (.seq (.reg [
       .seq ⟨some 42, .fa 0 (.t 9), none⟩,
       .seq ⟨some 43, .ld false 1 false (.t 42), none⟩,
       .seq ⟨some 44, .len false (.t 43), none⟩,
       .seq ⟨some 45, .mv false (.c (.int .i64 0)), none⟩])
     (.blk 4
      (.loop (.seq (.reg [
        .seq ⟨some 46, .bin .lss 0 (.t 45) (.t 44), none⟩])
      (.seq (.cond (.t 46)
       (.nop)
       (.exit 4))
      (.seq (.blk 5
       (.seq (.reg [
         .seq ⟨some 47, .ia 1 (.t 43) (.t 45), none⟩,
         .seq ⟨some 48, .ld false 1 false (.t 47), none⟩,
         .seq ⟨some 11, .mv true (.t 48), none⟩])
       (.reg [
         .seq ⟨some 49, .mv false (.t 5), none⟩,
         .seq ⟨some 50, .mv false (.t 11), none⟩,
         .seq ⟨some 51, .len false (.t 50), none⟩,
         .seq ⟨some 52, .bin .add 0 (.c (.int .i64 1)) (.t 51), none⟩,
         .seq ⟨some 53, .bin .add 0 (.t 49) (.t 52), none⟩,
         .seq ⟨some 5, .mv true (.t 53), none⟩])))
      (.reg [
        .seq ⟨some 54, .bin .add 0 (.t 45) (.c (.int .i64 1)), none⟩,
        .seq ⟨some 45, .mv false (.t 54), none⟩])))))))))
    (.reg [
      .seq ⟨some 55, .bin .add 0 (.t 38) (.c (.int .i64 1)), none⟩,
      .seq ⟨some 38, .mv false (.t 55), none⟩])))))))
   (.seq (.seq (.reg [
     .seq ⟨some 56, .fa 6 (.t 7), none⟩,
     .seq ⟨some 57, .fa 1 (.t 56), none⟩,
     .seq ⟨some 58, .ld false 1 false (.t 57), none⟩,
     .seq ⟨some 59, .len false (.t 58), none⟩,
     .seq ⟨some 60, .mv false (.c (.int .i64 0)), none⟩])
   (.blk 6
    (.loop (.seq (.reg [
      .seq ⟨some 61, .bin .lss 0 (.t 60) (.t 59), none⟩])
    (.seq (.cond (.t 61)
     (.nop)
     (.exit 6))
    (.seq (.blk 7
     (.seq (.reg [
       .seq ⟨some 62, .ia 1 (.t 58) (.t 60), none⟩,
       .seq ⟨some 63, .ld false 1 false (.t 62), none⟩,
       .seq ⟨some 13, .mv true (.t 63), none⟩])
     (.reg [
       .seq ⟨some 64, .mv false (.t 5), none⟩,
       .seq ⟨some 65, .mv false (.t 13), none⟩,
       .seq ⟨some 66, .len false (.t 65), none⟩,
       .seq ⟨some 67, .bin .add 0 (.c (.int .i64 1)) (.t 66), none⟩,
       .seq ⟨some 68, .bin .add 0 (.t 64) (.t 67), none⟩,
       .seq ⟨some 5, .mv true (.t 68), none⟩])))
    (.reg [
      .seq ⟨some 69, .bin .add 0 (.t 60) (.c (.int .i64 1)), none⟩,
      .seq ⟨some 60, .mv false (.t 69), none⟩])))))))
   (.seq (.seq (.reg [
     .seq ⟨some 70, .mv false (.t 5), none⟩,
     .seq ⟨some 71, .mv false (.t 1), none⟩,
     .seq ⟨some 72, .bin .leq 0 (.t 70) (.t 71), none⟩])
   (.cond (.t 72)
    (.reg [
      .seq ⟨some 73, .mv false (.t 5), none⟩,
      .seq ⟨some 74, .fa 17 (.t 7), none⟩,
      .seq ⟨some 75, .ld false 1 false (.t 74), none⟩,
      .seq ⟨some 76, .mv false (.t 1), none⟩,
      .seq ⟨some 77, .mv false (.t 5), none⟩,
      .seq ⟨some 78, .bin .sub 0 (.t 76) (.t 77), none⟩,
      .seq ⟨some 79, .call 28 [(.t 75), (.t 78)], none⟩,
      .seq ⟨some 80, .bin .add 0 (.t 73) (.t 79), none⟩,
      .seq ⟨some 5, .mv true (.t 80), none⟩])
    (.nop)))
   (.seq (.seq (.reg [
     .seq ⟨some 81, .mv false (.t 5), none⟩,
     .seq ⟨some 82, .mv false (.t 1), none⟩,
     .seq ⟨some 83, .bin .leq 0 (.t 81) (.t 82), none⟩])
   (.cond (.t 83)
    (.reg [
      .seq ⟨some 84, .mv false (.t 5), none⟩,
      .seq ⟨some 85, .fa 18 (.t 7), none⟩,
      .seq ⟨some 86, .ld false 1 false (.t 85), none⟩,
      .seq ⟨some 87, .mv false (.t 1), none⟩,
      .seq ⟨some 88, .mv false (.t 5), none⟩,
      .seq ⟨some 89, .bin .sub 0 (.t 87) (.t 88), none⟩,
      .seq ⟨some 90, .call 28 [(.t 86), (.t 89)], none⟩,
      .seq ⟨some 91, .bin .add 0 (.t 84) (.t 90), none⟩,
      .seq ⟨some 5, .mv true (.t 91), none⟩])
    (.nop)))
   (.seq (.reg [
     .seq ⟨some 92, .mv false (.t 5), none⟩,
     .seq ⟨some 93, .mv false (.t 1), none⟩,
     .seq ⟨some 94, .bin .gtr 0 (.t 92) (.t 93), none⟩])
   (.cond (.t 94)
    (.seq (.reg [
      .seq ⟨some 95, .mv true (.t 5), none⟩,
      .seq ⟨some 4, .mv true (.t 95), none⟩])
    (.ret))
    (.nop))))))))))
  (.reg [
    .seq ⟨some 96, .bin .add 0 (.t 16) (.c (.int .i64 1)), none⟩,
    .seq ⟨some 16, .mv false (.t 96), none⟩])))))))
 (.seq (.reg [
   .seq ⟨some 97, .mv true (.t 5), none⟩,
   .seq ⟨some 4, .mv true (.t 97), none⟩])
 (.ret))))
def a28 : AFunc := ⟨2, 98, [.t 4], c28, false⟩
/-- (headland/lang.checker).head -/
def c30 : ACode :=
 .seq (.reg [
   .seq ⟨some 9, .mv false (.t 0), none⟩,
   .seq ⟨some 10, .nc (.t 9), none⟩,
   .seq ⟨some 11, .fa 0 (.t 10), none⟩,
   .seq ⟨some 12, .fa 0 (.t 11), none⟩,
   .seq ⟨some 13, .ld false 1 false (.t 12), none⟩,
   .seq ⟨some 14, .len false (.t 13), none⟩,
   .seq ⟨some 15, .bin .leq 0 (.t 14) (.c (.int .i64 2)), none⟩,
   .seq ⟨some 16, .mv false (.t 15), none⟩,
   .seq ⟨some 17, .mv false (.t 0), some (16, true)⟩,
   .seq ⟨some 18, .nc (.t 17), some (16, true)⟩,
   .seq ⟨some 19, .fa 0 (.t 18), some (16, true)⟩,
   .seq ⟨some 20, .fa 1 (.t 19), some (16, true)⟩,
   .seq ⟨some 21, .ld false 1 false (.t 20), some (16, true)⟩,
   .seq ⟨some 22, .len false (.t 21), some (16, true)⟩,
   .seq ⟨some 23, .bin .leq 0 (.t 22) (.c (.int .i64 8)), some (16, true)⟩,
   .seq ⟨some 24, .pick (.t 16) (.t 23) (.c (.bool false)), none⟩,
   .seq ⟨some 25, .call 64 [(.t 24)], none⟩])
 (.seq (.reg [
   .seq ⟨some 2, .mv true (.c (.slice .nil [])), none⟩])
 (.seq (.seq (.reg [
   .seq ⟨some 26, .mv false (.t 0), none⟩,
   .seq ⟨some 27, .nc (.t 26), none⟩,
   .seq ⟨some 28, .fa 0 (.t 27), none⟩,
   .seq ⟨some 29, .fa 0 (.t 28), none⟩,
   .seq ⟨some 30, .ld false 1 false (.t 29), none⟩,
   .seq ⟨some 31, .len false (.t 30), none⟩,
   .seq ⟨some 32, .mv false (.c (.int .i64 0)), none⟩])
 (.blk 0
  (.loop (.seq (.reg [
    .seq ⟨some 33, .bin .lss 0 (.t 32) (.t 31), none⟩])
  (.seq (.cond (.t 33)
   (.nop)
   (.exit 0))
  (.seq (.blk 1
   (.seq (.reg [
     .seq ⟨some 34, .ia 1 (.t 30) (.t 32), none⟩,
     .seq ⟨some 35, .ld false 1 false (.t 34), none⟩,
     .seq ⟨some 4, .mv true (.t 35), none⟩])
   (.seq (.reg [
     .seq ⟨some 36, .mv false (.t 4), none⟩,
     .seq ⟨some 37, .mv false (.t 2), none⟩,
     .seq ⟨some 38, .call 65 [(.t 36), (.t 37)], none⟩,
     .seq ⟨some 39, .call 64 [(.t 38)], none⟩])
   (.reg [
     .seq ⟨some 40, .mv true (.t 2), none⟩,
     .seq ⟨some 41, .mv false (.t 4), none⟩,
     .seq ⟨some 42, .row 9 1 [(.t 41)], none⟩,
     .seq ⟨some 43, .app 9 1 16 (.t 40) (.t 42), none⟩,
     .seq ⟨some 2, .mv true (.t 43), none⟩]))))
  (.reg [
    .seq ⟨some 44, .bin .add 0 (.t 32) (.c (.int .i64 1)), none⟩,
    .seq ⟨some 32, .mv false (.t 44), none⟩])))))))
 (.seq (.reg [
   .seq ⟨some 45, .mv false (.t 0), none⟩,
   .seq ⟨some 46, .nc (.t 45), none⟩,
   .seq ⟨some 47, .fa 0 (.t 46), none⟩,
   .seq ⟨some 48, .fa 1 (.t 47), none⟩,
   .seq ⟨some 49, .ld false 1 false (.t 48), none⟩,
   .seq ⟨some 50, .len false (.t 49), none⟩,
   .seq ⟨some 51, .mv false (.c (.int .i64 0)), none⟩])
 (.blk 2
  (.loop (.seq (.reg [
    .seq ⟨some 52, .bin .lss 0 (.t 51) (.t 50), none⟩])
  (.seq (.cond (.t 52)
   (.nop)
   (.exit 2))
  (.seq (.blk 3
   (.seq (.reg [
     .seq ⟨some 53, .ia 2 (.t 49) (.t 51), none⟩,
     .seq ⟨some 54, .ld false 2 true (.t 53), none⟩,
     .seq ⟨some 6, .al [.str ⟨#[]⟩, .slice .nil []], none⟩,
     .seq ⟨none, .st 2 (.t 6) (.t 54), none⟩])
   (.seq (.reg [
     .seq ⟨some 55, .fa 0 (.t 6), none⟩,
     .seq ⟨some 56, .ld false 1 false (.t 55), none⟩,
     .seq ⟨some 57, .mv false (.t 2), none⟩,
     .seq ⟨some 58, .call 65 [(.t 56), (.t 57)], none⟩,
     .seq ⟨some 59, .mv false (.t 58), none⟩,
     .seq ⟨some 60, .fa 1 (.t 6), some (59, true)⟩,
     .seq ⟨some 61, .ld false 1 false (.t 60), some (59, true)⟩,
     .seq ⟨some 62, .len false (.t 61), some (59, true)⟩,
     .seq ⟨some 63, .bin .leq 0 (.t 62) (.c (.int .i64 3)), some (59, true)⟩,
     .seq ⟨some 64, .pick (.t 59) (.t 63) (.c (.bool false)), none⟩,
     .seq ⟨some 65, .call 64 [(.t 64)], none⟩])
   (.seq (.reg [
     .seq ⟨some 66, .mv true (.t 2), none⟩,
     .seq ⟨some 67, .fa 0 (.t 6), none⟩,
     .seq ⟨some 68, .ld false 1 false (.t 67), none⟩,
     .seq ⟨some 69, .row 9 1 [(.t 68)], none⟩,
     .seq ⟨some 70, .app 9 1 16 (.t 66) (.t 69), none⟩,
     .seq ⟨some 2, .mv true (.t 70), none⟩])
   (.seq (.reg [
     .seq ⟨some 71, .fa 1 (.t 6), none⟩,
     .seq ⟨some 72, .ld false 1 false (.t 71), none⟩,
     .seq ⟨some 73, .len false (.t 72), none⟩,
     .seq ⟨some 74, .mv false (.c (.int .i64 0)), none⟩])
   (.blk 4
    (.loop (.seq (.reg [
      .seq ⟨some 75, .bin .lss 0 (.t 74) (.t 73), none⟩])
    (.seq (.cond (.t 75)
     (.nop)
     (.exit 4))
    (.seq (.blk 5
     (.seq (.reg [
       .seq ⟨some 76, .ia 2 (.t 72) (.t 74), none⟩,
       .seq ⟨some 77, .ld false 2 true (.t 76), none⟩,
       .seq ⟨some 8, .al [.slice .nil [], .int .i64 0], none⟩,
       .seq ⟨none, .st 2 (.t 8) (.t 77), none⟩])
     (.reg [
       .free [⟨some 78, .ld false 2 true (.t 8), none⟩, ⟨some 79, .mv false (.t 0), none⟩, ⟨some 80, .nc (.t 79), none⟩, ⟨some 81, .fa 0 (.t 80), none⟩, ⟨some 82, .fa 0 (.t 81), none⟩, ⟨some 83, .ld false 1 false (.t 82), none⟩, ⟨some 84, .len false (.t 83), none⟩],
       .seq ⟨some 85, .call 66 [(.t 78), (.t 84)], none⟩,
       .seq ⟨some 86, .call 64 [(.t 85)], none⟩])))
    (.reg [
      .seq ⟨some 87, .bin .add 0 (.t 74) (.c (.int .i64 1)), none⟩,
      .seq ⟨some 74, .mv false (.t 87), none⟩])))))))))))
  (.reg [
    .seq ⟨some 88, .bin .add 0 (.t 51) (.c (.int .i64 1)), none⟩,
    .seq ⟨some 51, .mv false (.t 88), none⟩])))))))))
def a30 : AFunc := ⟨1, 89, [], c30, false⟩
/-- (headland/lang.checker).body -/
def c31 : ACode :=
 .seq (.reg [
   .seq ⟨some 8, .mv false (.t 1), none⟩,
   .seq ⟨some 9, .len false (.t 8), none⟩,
   .seq ⟨some 10, .bin .eql 0 (.t 9) (.c (.int .i64 0)), none⟩,
   .seq ⟨some 11, .mv false (.t 10), none⟩,
   .seq ⟨some 12, .mv false (.t 2), some (11, false)⟩,
   .seq ⟨some 13, .len false (.t 12), some (11, false)⟩,
   .seq ⟨some 14, .mv false (.t 0), some (11, false)⟩,
   .seq ⟨some 15, .nc (.t 14), some (11, false)⟩,
   .seq ⟨some 16, .fa 0 (.t 15), some (11, false)⟩,
   .seq ⟨some 17, .fa 0 (.t 16), some (11, false)⟩,
   .seq ⟨some 18, .ld false 1 false (.t 17), some (11, false)⟩,
   .seq ⟨some 19, .len false (.t 18), some (11, false)⟩,
   .seq ⟨some 20, .bin .sub 0 (.t 13) (.t 19), some (11, false)⟩,
   .seq ⟨some 21, .bin .leq 0 (.t 20) (.c (.int .i64 10)), some (11, false)⟩,
   .seq ⟨some 22, .pick (.t 11) (.c (.bool true)) (.t 21), none⟩,
   .seq ⟨some 23, .call 64 [(.t 22)], none⟩])
 (.seq (.reg [
   .seq ⟨some 24, .mv false (.t 1), none⟩,
   .seq ⟨some 25, .len false (.t 24), none⟩,
   .seq ⟨some 26, .mv false (.c (.int .i64 0)), none⟩])
 (.blk 0
  (.loop (.seq (.reg [
    .seq ⟨some 27, .bin .lss 0 (.t 26) (.t 25), none⟩])
  (.seq (.cond (.t 27)
   (.nop)
   (.exit 0))
  (.seq (.blk 1
   (.seq (.reg [
     .seq ⟨some 28, .ia 19 (.t 24) (.t 26), none⟩,
     .seq ⟨some 29, .ld false 19 true (.t 28), none⟩,
     .seq ⟨some 7, .al [.int .i64 0, .str ⟨#[]⟩, .slice .nil [], .slice .nil [], .int .i64 0, .int .i64 0, .int .i64 0, .slice .nil [], .int .i64 0, .slice .nil [], .int .i64 0, .int .i64 0, .slice .nil [], .int .i64 0, .int .i64 0, .slice .nil [], .slice .nil [], .slice .nil [], .slice .nil []], none⟩,
     .seq ⟨none, .st 19 (.t 7) (.t 29), none⟩])
   (.seq (.reg [
     .seq ⟨some 30, .mv false (.t 0), none⟩,
     .seq ⟨some 31, .nc (.t 30), none⟩,
     .seq ⟨some 32, .fa 3 (.t 31), none⟩,
     .seq ⟨some 33, .ld false 1 false (.t 32), none⟩,
     .seq ⟨some 34, .bin .add 0 (.t 33) (.c (.int .i64 1)), none⟩,
     .seq ⟨some 35, .nc (.t 30), none⟩,
     .seq ⟨some 36, .fa 3 (.t 35), none⟩,
     .seq ⟨none, .st 1 (.t 36) (.t 34), none⟩])
   (.seq (.reg [
     .seq ⟨some 37, .mv false (.t 0), none⟩,
     .seq ⟨some 38, .nc (.t 37), none⟩,
     .seq ⟨some 39, .fa 3 (.t 38), none⟩,
     .seq ⟨some 40, .ld false 1 false (.t 39), none⟩,
     .seq ⟨some 41, .bin .leq 0 (.t 40) (.c (.int .i64 256)), none⟩,
     .seq ⟨some 42, .call 64 [(.t 41)], none⟩])
   (.reg [
     .seq ⟨some 43, .ld false 19 true (.t 7), none⟩,
     .seq ⟨some 44, .call 67 [(.t 43)], none⟩,
     .seq ⟨some 45, .mv false (.t 0), none⟩,
     .seq ⟨some 46, .mv false (.t 2), none⟩,
     .seq ⟨some 47, .inv (.t 44) "headland/lang.check" [(.t 45), (.t 46)], none⟩])))))
  (.reg [
    .seq ⟨some 48, .bin .add 0 (.t 26) (.c (.int .i64 1)), none⟩,
    .seq ⟨some 26, .mv false (.t 48), none⟩])))))))
def a31 : AFunc := ⟨3, 49, [], c31, false⟩
/-- slices.Clone[[]string,string] -/
def c32 : ACode :=
 .seq (.reg [
   .seq ⟨some 2, .mv true (.c (.slice .nil [])), none⟩])
 (.seq (.seq (.reg [
   .seq ⟨some 3, .mv false (.t 0), none⟩,
   .seq ⟨some 4, .isn false (.t 3), none⟩])
 (.cond (.t 4)
  (.seq (.reg [
    .seq ⟨some 2, .mv true (.c (.slice .nil [])), none⟩])
  (.ret))
  (.nop)))
 (.seq (.reg [
   .seq ⟨some 5, .row 9 1 [], none⟩,
   .seq ⟨some 6, .mv false (.t 0), none⟩,
   .seq ⟨some 7, .app 9 1 16 (.t 5) (.t 6), none⟩,
   .seq ⟨some 2, .mv true (.t 7), none⟩])
 (.ret)))
def a32 : AFunc := ⟨1, 8, [.t 2], c32, false⟩
/-- headland/headlandlaw10.Example -/
def c34 : ACode :=
 .seq (.reg [
   .seq ⟨some 0, .al [.slice .nil [], .slice .nil [], .slice .nil []], none⟩])
 (.seq (.reg [
   .seq ⟨some 4, .call 72 [(.c (.int .i64 0)), (.c (.int .i64 1)), (.c (.int .i64 1))], none⟩,
   .seq ⟨some 5, .row 46 2 [(.t 4)], none⟩,
   .seq ⟨some 6, .bld [.int .i64 0, .slice .nil []] [(1, 1, (.t 5))], none⟩,
   .seq ⟨some 7, .bld [.int .i64 0, .int .i64 0, .slice .nil [], .int .i64 0, .int .i64 0, .slice .nil [], .slice .nil []] [(0, 1, (.c (.int .i64 2))), (4, 2, (.t 6))], none⟩,
   .seq ⟨some 1, .al [.int .i64 0, .int .i64 0, .slice .nil [], .int .i64 0, .int .i64 0, .slice .nil [], .slice .nil []], none⟩,
   .seq ⟨none, .st 7 (.t 1) (.t 7), none⟩])
 (.seq (.reg [
   .seq ⟨some 8, .ld false 7 true (.t 1), none⟩,
   .seq ⟨some 9, .bld [.int .i64 0, .int .i64 0, .slice .nil [], .int .i64 0, .int .i64 0, .slice .nil [], .slice .nil []] [(0, 1, (.c (.int .i64 0))), (1, 1, (.c (.int .i64 1)))], none⟩,
   .seq ⟨some 10, .row 49 7 [(.t 8), (.t 9)], none⟩,
   .seq ⟨some 11, .bld [.int .i64 0, .int .i64 0, .slice .nil [], .int .i64 0, .int .i64 0, .slice .nil [], .slice .nil []] [(0, 1, (.c (.int .i64 3))), (6, 1, (.t 10))], none⟩,
   .seq ⟨some 2, .al [.int .i64 0, .int .i64 0, .slice .nil [], .int .i64 0, .int .i64 0, .slice .nil [], .slice .nil []], none⟩,
   .seq ⟨none, .st 7 (.t 2) (.t 11), none⟩])
 (.seq (.reg [
   .free [⟨some 12, .row 3 1 [(.c (.int .i64 0))], none⟩, ⟨some 13, .bld [.slice .nil [], .int .i64 0] [(0, 1, (.t 12))], none⟩, ⟨some 14, .call 73 [(.t 13)], none⟩, ⟨some 15, .row 3 1 [(.c (.int .i64 1))], none⟩, ⟨some 16, .bld [.slice .nil [], .int .i64 0] [(0, 1, (.t 15)), (1, 1, (.c (.int .i64 (-1))))], none⟩, ⟨some 17, .call 73 [(.t 16)], none⟩, ⟨some 18, .call 72 [(.c (.int .i64 0)), (.c (.int .i64 1)), (.c (.int .i64 0))], none⟩, ⟨some 19, .row 46 2 [(.t 18)], none⟩, ⟨some 20, .bld [.int .i64 0, .slice .nil []] [(1, 1, (.t 19))], none⟩, ⟨some 21, .ld false 7 true (.t 2), none⟩, ⟨some 22, .bld [.int .i64 0, .str ⟨#[]⟩, .slice .nil [], .slice .nil [], .int .i64 0, .int .i64 0, .int .i64 0, .slice .nil [], .int .i64 0, .slice .nil [], .int .i64 0, .int .i64 0, .slice .nil [], .int .i64 0, .int .i64 0, .slice .nil [], .slice .nil [], .slice .nil [], .slice .nil []] [(0, 1, (.c (.int .i64 3))), (8, 2, (.t 20)), (10, 7, (.t 21))], none⟩, ⟨some 23, .row 51 19 [(.t 22)], none⟩, ⟨some 24, .bld [.int .i64 0, .str ⟨#[]⟩, .slice .nil [], .slice .nil [], .int .i64 0, .int .i64 0, .int .i64 0, .slice .nil [], .int .i64 0, .slice .nil [], .int .i64 0, .int .i64 0, .slice .nil [], .int .i64 0, .int .i64 0, .slice .nil [], .slice .nil [], .slice .nil [], .slice .nil []] [(0, 1, (.c (.int .i64 1))), (1, 1, (.c (.str ⟨#[105]⟩))), (2, 1, (.t 14)), (3, 1, (.t 17)), (4, 1, (.c (.int .i64 1))), (17, 1, (.t 23))], none⟩, ⟨some 3, .al [.int .i64 0, .str ⟨#[]⟩, .slice .nil [], .slice .nil [], .int .i64 0, .int .i64 0, .int .i64 0, .slice .nil [], .int .i64 0, .slice .nil [], .int .i64 0, .int .i64 0, .slice .nil [], .int .i64 0, .int .i64 0, .slice .nil [], .slice .nil [], .slice .nil [], .slice .nil []], none⟩],
   .seq ⟨none, .st 19 (.t 3) (.t 24), none⟩])
 (.seq (.reg [
   .seq ⟨some 25, .row 9 1 [(.c (.str ⟨#[110]⟩))], none⟩,
   .seq ⟨some 26, .row 3 1 [(.c (.int .i64 1))], none⟩,
   .seq ⟨some 27, .bld [.slice .nil [], .int .i64 0] [(0, 1, (.t 26)), (1, 1, (.c (.int .i64 1)))], none⟩,
   .seq ⟨some 28, .row 46 2 [(.t 27)], none⟩,
   .seq ⟨some 29, .bld [.str ⟨#[]⟩, .slice .nil []] [(0, 1, (.c (.str ⟨#[65]⟩))), (1, 1, (.t 28))], none⟩,
   .seq ⟨some 30, .row 83 2 [(.t 29)], none⟩,
   .seq ⟨some 31, .ld false 19 true (.t 3), none⟩,
   .seq ⟨some 32, .row 51 19 [(.t 31)], none⟩,
   .seq ⟨some 33, .bld [.slice .nil [], .slice .nil [], .slice .nil []] [(0, 1, (.t 25)), (1, 1, (.t 30)), (2, 1, (.t 32))], none⟩,
   .seq ⟨none, .st 3 (.t 0) (.t 33), none⟩])
 (.ret)))))
def a34 : AFunc := ⟨0, 34, [.c 0 3 true], c34, false⟩
/-- headland/headlandlaw10.list -/
def c35 : ACode :=
 .seq (.reg [
   .seq ⟨some 4, .mv true (.c (.bool false)), none⟩])
 (.seq (.reg [
   .seq ⟨some 5, .mv false (.t 0), none⟩,
   .seq ⟨some 6, .len false (.t 5), none⟩,
   .seq ⟨some 7, .mv false (.t 1), none⟩,
   .seq ⟨some 8, .len false (.t 7), none⟩,
   .seq ⟨some 9, .bin .eql 0 (.t 6) (.t 8), none⟩,
   .seq ⟨some 10, .mv false (.t 9), none⟩,
   .seq ⟨some 11, .mv false (.t 0), some (10, true)⟩,
   .seq ⟨some 12, .mv false (.t 1), some (10, true)⟩,
   .seq ⟨some 13, .call 17 [(.t 11), (.t 12)], some (10, true)⟩,
   .seq ⟨some 14, .bin .eql 0 (.t 13) (.c (.int .i64 0)), some (10, true)⟩,
   .seq ⟨some 15, .pick (.t 10) (.t 14) (.c (.bool false)), none⟩,
   .seq ⟨some 4, .mv true (.t 15), none⟩])
 (.ret))
def a35 : AFunc := ⟨2, 16, [.t 4], c35, false⟩
/-- headland/lang.walk -/
def c36 : ACode :=
 .seq (.reg [
   .seq ⟨some 1, .box 3 (.t 0), none⟩,
   .seq ⟨some 2, .mv true (.c (.nilf)), none⟩])
 (.seq (.reg [
   .seq ⟨some 3, .fn 74 [(.t 1)], none⟩,
   .seq ⟨some 2, .mv true (.t 3), none⟩])
 (.ret))
def a36 : AFunc := ⟨1, 4, [.t 2], c36, true⟩
/-- headland/lang.CopyStmt -/
def c37 : ACode :=
 .seq (.reg [
   .seq ⟨some 1, .box 19 (.t 0), none⟩,
   .seq ⟨some 2, .al [.int .i64 0, .str ⟨#[]⟩, .slice .nil [], .slice .nil [], .int .i64 0, .int .i64 0, .int .i64 0, .slice .nil [], .int .i64 0, .slice .nil [], .int .i64 0, .int .i64 0, .slice .nil [], .int .i64 0, .int .i64 0, .slice .nil [], .slice .nil [], .slice .nil [], .slice .nil []], none⟩])
 (.seq (.reg [
   .seq ⟨some 6, .ld false 19 true (.t 1), none⟩,
   .seq ⟨some 3, .al [.int .i64 0, .str ⟨#[]⟩, .slice .nil [], .slice .nil [], .int .i64 0, .int .i64 0, .int .i64 0, .slice .nil [], .int .i64 0, .slice .nil [], .int .i64 0, .int .i64 0, .slice .nil [], .int .i64 0, .int .i64 0, .slice .nil [], .slice .nil [], .slice .nil [], .slice .nil []], none⟩,
   .seq ⟨none, .st 19 (.t 3) (.t 6), none⟩])
 (.seq (.reg [
   .free [⟨some 7, .fa 2 (.t 1), none⟩, ⟨some 8, .ld false 1 true (.t 7), none⟩, ⟨some 9, .call 77 [(.t 8)], none⟩, ⟨some 10, .fa 3 (.t 1), none⟩, ⟨some 11, .ld false 1 true (.t 10), none⟩, ⟨some 12, .call 77 [(.t 11)], none⟩, ⟨some 13, .fa 2 (.t 3), none⟩],
   .seq ⟨none, .st 1 (.t 13) (.t 9), none⟩,
   .seq ⟨some 14, .fa 3 (.t 3), none⟩,
   .seq ⟨none, .st 1 (.t 14) (.t 12), none⟩])
 (.seq (.reg [
   .seq ⟨some 15, .fa 6 (.t 1), none⟩,
   .seq ⟨some 16, .fa 0 (.t 15), none⟩,
   .seq ⟨some 17, .ld false 1 false (.t 16), none⟩,
   .seq ⟨some 18, .bld [.int .i64 0, .slice .nil []] [(0, 1, (.t 17))], none⟩,
   .seq ⟨some 19, .fa 6 (.t 3), none⟩,
   .seq ⟨none, .st 2 (.t 19) (.t 18), none⟩])
 (.seq (.seq (.reg [
   .seq ⟨some 20, .fa 6 (.t 1), none⟩,
   .seq ⟨some 21, .fa 1 (.t 20), none⟩,
   .seq ⟨some 22, .ld false 1 false (.t 21), none⟩,
   .seq ⟨some 23, .len false (.t 22), none⟩,
   .seq ⟨some 24, .mv false (.c (.int .i64 0)), none⟩])
 (.blk 0
  (.loop (.seq (.reg [
    .seq ⟨some 25, .bin .lss 0 (.t 24) (.t 23), none⟩])
  (.seq (.cond (.t 25)
   (.nop)
   (.exit 0))
  (.seq (.blk 1
   (.seq (.reg [
     .seq ⟨some 26, .ia 1 (.t 22) (.t 24), none⟩,
     .seq ⟨some 27, .ld false 1 false (.t 26), none⟩,
     .seq ⟨some 5, .mv true (.t 27), none⟩])
   (.reg [
     .free [⟨some 28, .fa 6 (.t 3), none⟩, ⟨some 29, .fa 1 (.t 28), none⟩, ⟨some 30, .ld true 1 false (.t 29), none⟩, ⟨some 31, .mv false (.t 5), none⟩, ⟨some 32, .call 78 [(.t 31)], none⟩, ⟨some 33, .row 131 1 [(.t 32)], none⟩],
     .seq ⟨some 34, .app 131 1 24 (.t 30) (.t 33), none⟩,
     .seq ⟨some 35, .fa 6 (.t 3), none⟩,
     .seq ⟨some 36, .fa 1 (.t 35), none⟩,
     .seq ⟨none, .st 1 (.t 36) (.t 34), none⟩])))
  (.reg [
    .seq ⟨some 37, .bin .add 0 (.t 24) (.c (.int .i64 1)), none⟩,
    .seq ⟨some 24, .mv false (.t 37), none⟩])))))))
 (.seq (.reg [
   .free [⟨some 38, .fa 8 (.t 1), none⟩, ⟨some 39, .ld false 2 true (.t 38), none⟩, ⟨some 40, .call 79 [(.t 39)], none⟩, ⟨some 41, .fa 10 (.t 1), none⟩, ⟨some 42, .ld false 7 true (.t 41), none⟩, ⟨some 43, .call 80 [(.t 42)], none⟩, ⟨some 44, .fa 8 (.t 3), none⟩],
   .seq ⟨none, .st 2 (.t 44) (.t 40), none⟩,
   .seq ⟨some 45, .fa 10 (.t 3), none⟩,
   .seq ⟨none, .st 7 (.t 45) (.t 43), none⟩])
 (.seq (.reg [
   .free [⟨some 46, .fa 17 (.t 1), none⟩, ⟨some 47, .ld false 1 false (.t 46), none⟩, ⟨some 48, .call 55 [(.t 47)], none⟩, ⟨some 49, .fa 18 (.t 1), none⟩, ⟨some 50, .ld false 1 false (.t 49), none⟩, ⟨some 51, .call 55 [(.t 50)], none⟩, ⟨some 52, .fa 17 (.t 3), none⟩],
   .seq ⟨none, .st 1 (.t 52) (.t 48), none⟩,
   .seq ⟨some 53, .fa 18 (.t 3), none⟩,
   .seq ⟨none, .st 1 (.t 53) (.t 51), none⟩])
 (.seq (.reg [
   .seq ⟨some 54, .ld false 19 true (.t 3), none⟩,
   .seq ⟨none, .st 19 (.t 2) (.t 54), none⟩])
 (.ret))))))))
def a37 : AFunc := ⟨1, 55, [.c 2 19 true], c37, false⟩
/-- headland/lang.reads -/
def c38 : ACode :=
 .seq (.reg [
   .seq ⟨some 1, .box 7 (.t 0), none⟩,
   .seq ⟨some 2, .mv true (.c (.slice .nil [])), none⟩])
 (.seq (.seq (.reg [
   .seq ⟨some 6, .fa 0 (.t 1), none⟩,
   .seq ⟨some 7, .ld false 1 false (.t 6), none⟩,
   .seq ⟨some 8, .bin .eql 0 (.t 7) (.c (.int .i64 2)), none⟩])
 (.cond (.t 8)
  (.seq (.reg [
    .seq ⟨some 9, .fa 4 (.t 1), none⟩,
    .seq ⟨some 10, .ld false 2 true (.t 9), none⟩,
    .seq ⟨some 11, .call 79 [(.t 10)], none⟩,
    .seq ⟨some 12, .row 44 2 [(.t 11)], none⟩,
    .seq ⟨some 2, .mv true (.t 12), none⟩])
  (.ret))
  (.nop)))
 (.seq (.reg [
   .seq ⟨some 3, .mv true (.c (.slice .nil [])), none⟩])
 (.seq (.seq (.reg [
   .seq ⟨some 13, .fa 6 (.t 1), none⟩,
   .seq ⟨some 14, .ld false 1 false (.t 13), none⟩,
   .seq ⟨some 15, .len false (.t 14), none⟩,
   .seq ⟨some 16, .mv false (.c (.int .i64 0)), none⟩])
 (.blk 0
  (.loop (.seq (.reg [
    .seq ⟨some 17, .bin .lss 0 (.t 16) (.t 15), none⟩])
  (.seq (.cond (.t 17)
   (.nop)
   (.exit 0))
  (.seq (.blk 1
   (.seq (.reg [
     .seq ⟨some 18, .ia 7 (.t 14) (.t 16), none⟩,
     .seq ⟨some 19, .ld false 7 true (.t 18), none⟩,
     .seq ⟨some 5, .al [.int .i64 0, .int .i64 0, .slice .nil [], .int .i64 0, .int .i64 0, .slice .nil [], .slice .nil []], none⟩,
     .seq ⟨none, .st 7 (.t 5) (.t 19), none⟩])
   (.reg [
     .seq ⟨some 20, .mv true (.t 3), none⟩,
     .seq ⟨some 21, .ld false 7 true (.t 5), none⟩,
     .seq ⟨some 22, .call 38 [(.t 21)], none⟩,
     .seq ⟨some 23, .app 44 2 32 (.t 20) (.t 22), none⟩,
     .seq ⟨some 3, .mv true (.t 23), none⟩])))
  (.reg [
    .seq ⟨some 24, .bin .add 0 (.t 16) (.c (.int .i64 1)), none⟩,
    .seq ⟨some 16, .mv false (.t 24), none⟩])))))))
 (.seq (.reg [
   .seq ⟨some 25, .mv true (.t 3), none⟩,
   .seq ⟨some 2, .mv true (.t 25), none⟩])
 (.ret)))))
def a38 : AFunc := ⟨1, 26, [.t 2], c38, false⟩
/-- headland/lang.found -/
def c39 : ACode :=
 .seq (.reg [
   .seq ⟨some 2, .box 3 (.t 0), none⟩,
   .seq ⟨some 3, .box 1 (.t 1), none⟩,
   .seq ⟨some 4, .al [.slice .nil [], .slice .nil [], .int .i64 0, .str ⟨#[]⟩, .slice .nil [], .slice .nil [], .int .i64 0, .int .i64 0, .int .i64 0, .slice .nil [], .int .i64 0, .slice .nil [], .int .i64 0, .int .i64 0, .slice .nil [], .int .i64 0, .int .i64 0, .slice .nil [], .slice .nil [], .slice .nil [], .slice .nil []], none⟩,
   .seq ⟨some 5, .al [.bool false], none⟩])
 (.seq (.seq (.reg [
   .seq ⟨some 7, .ld false 3 true (.t 2), none⟩,
   .seq ⟨some 8, .call 36 [(.t 7)], none⟩])
 (.blk 0
  (.rng (.t 8) [9]
   (.reg [
     .seq ⟨some 6, .al [.slice .nil [], .slice .nil [], .int .i64 0, .str ⟨#[]⟩, .slice .nil [], .slice .nil [], .int .i64 0, .int .i64 0, .int .i64 0, .slice .nil [], .int .i64 0, .slice .nil [], .int .i64 0, .int .i64 0, .slice .nil [], .int .i64 0, .int .i64 0, .slice .nil [], .slice .nil [], .slice .nil [], .slice .nil []], none⟩,
     .seq ⟨none, .st 21 (.t 6) (.t 9), none⟩])
   (.blk 1
    (.seq (.reg [
      .seq ⟨some 10, .fa 0 (.t 6), none⟩,
      .seq ⟨some 11, .ld false 1 false (.t 10), none⟩,
      .seq ⟨some 12, .ld false 1 false (.t 3), none⟩,
      .seq ⟨some 13, .call 81 [(.t 11), (.t 12)], none⟩])
    (.cond (.t 13)
     (.seq (.reg [
       .seq ⟨some 14, .ld false 21 true (.t 6), none⟩,
       .seq ⟨none, .st 21 (.t 4) (.t 14), none⟩,
       .seq ⟨none, .st 1 (.t 5) (.c (.bool true)), none⟩])
     (.ret))
     (.nop)))))))
 (.seq (.reg [
   .seq ⟨some 15, .bld [.slice .nil [], .slice .nil [], .int .i64 0, .str ⟨#[]⟩, .slice .nil [], .slice .nil [], .int .i64 0, .int .i64 0, .int .i64 0, .slice .nil [], .int .i64 0, .slice .nil [], .int .i64 0, .int .i64 0, .slice .nil [], .int .i64 0, .int .i64 0, .slice .nil [], .slice .nil [], .slice .nil [], .slice .nil []] [], none⟩,
   .seq ⟨none, .st 21 (.t 4) (.t 15), none⟩,
   .seq ⟨none, .st 1 (.t 5) (.c (.bool false)), none⟩])
 (.ret)))
def a39 : AFunc := ⟨2, 16, [.c 4 21 true, .c 5 1 false], c39, false⟩
/-- headland/headlandref10.sameBound -/
def c40 : ACode :=
 .seq (.reg [
   .seq ⟨some 2, .box 1 (.t 0), none⟩,
   .seq ⟨some 3, .box 1 (.t 1), none⟩,
   .seq ⟨some 4, .mv true (.c (.bool false)), none⟩])
 (.seq (.seq (.reg [
   .seq ⟨some 9, .fa 0 (.t 2), none⟩,
   .seq ⟨some 10, .ld false 1 false (.t 9), none⟩,
   .seq ⟨some 11, .len false (.t 10), none⟩,
   .seq ⟨some 12, .fa 0 (.t 3), none⟩,
   .seq ⟨some 13, .ld false 1 false (.t 12), none⟩,
   .seq ⟨some 14, .len false (.t 13), none⟩,
   .seq ⟨some 15, .bin .neq 0 (.t 11) (.t 14), none⟩])
 (.cond (.t 15)
  (.seq (.reg [
    .seq ⟨some 4, .mv true (.c (.bool false)), none⟩])
  (.ret))
  (.nop)))
 (.seq (.seq (.reg [
   .seq ⟨some 16, .fa 0 (.t 2), none⟩,
   .seq ⟨some 17, .ld false 1 false (.t 16), none⟩,
   .seq ⟨some 18, .len false (.t 17), none⟩,
   .seq ⟨some 19, .mv false (.c (.int .i64 0)), none⟩])
 (.blk 0
  (.loop (.seq (.reg [
    .seq ⟨some 20, .bin .lss 0 (.t 19) (.t 18), none⟩])
  (.seq (.cond (.t 20)
   (.nop)
   (.exit 0))
  (.seq (.blk 1
   (.seq (.reg [
     .seq ⟨some 21, .mv false (.t 19), none⟩,
     .seq ⟨some 5, .mv true (.t 21), none⟩])
   (.seq (.seq (.reg [
     .free [⟨some 22, .fa 0 (.t 2), none⟩, ⟨some 23, .ld false 1 false (.t 22), none⟩, ⟨some 24, .mv false (.t 5), none⟩, ⟨some 25, .ia 1 (.t 23) (.t 24), none⟩, ⟨some 26, .ld false 1 false (.t 25), none⟩, ⟨some 27, .len false (.t 26), none⟩, ⟨some 28, .fa 0 (.t 3), none⟩, ⟨some 29, .ld false 1 false (.t 28), none⟩, ⟨some 30, .mv false (.t 5), none⟩, ⟨some 31, .ia 1 (.t 29) (.t 30), none⟩, ⟨some 32, .ld false 1 false (.t 31), none⟩, ⟨some 33, .len false (.t 32), none⟩],
     .seq ⟨some 34, .bin .neq 0 (.t 27) (.t 33), none⟩])
   (.cond (.t 34)
    (.seq (.reg [
      .seq ⟨some 4, .mv true (.c (.bool false)), none⟩])
    (.ret))
    (.nop)))
   (.seq (.reg [
     .seq ⟨some 35, .fa 0 (.t 2), none⟩,
     .seq ⟨some 36, .ld false 1 false (.t 35), none⟩,
     .seq ⟨some 37, .mv false (.t 5), none⟩,
     .seq ⟨some 38, .ia 1 (.t 36) (.t 37), none⟩,
     .seq ⟨some 39, .ld false 1 false (.t 38), none⟩,
     .seq ⟨some 40, .len false (.t 39), none⟩,
     .seq ⟨some 41, .mv false (.c (.int .i64 0)), none⟩])
   (.blk 2
    (.loop (.seq (.reg [
      .seq ⟨some 42, .bin .lss 0 (.t 41) (.t 40), none⟩])
    (.seq (.cond (.t 42)
     (.nop)
     (.exit 2))
    (.seq (.blk 3
     (.seq (.reg [
       .seq ⟨some 43, .mv false (.t 41), none⟩,
       .seq ⟨some 6, .mv true (.t 43), none⟩])
     (.seq (.reg [
       .free [⟨some 44, .fa 0 (.t 2), none⟩, ⟨some 45, .ld false 1 false (.t 44), none⟩, ⟨some 46, .mv false (.t 5), none⟩, ⟨some 47, .ia 1 (.t 45) (.t 46), none⟩, ⟨some 48, .ld false 1 false (.t 47), none⟩, ⟨some 49, .mv false (.t 6), none⟩, ⟨some 50, .ia 3 (.t 48) (.t 49), none⟩, ⟨some 51, .ld false 3 true (.t 50), none⟩, ⟨some 52, .fa 0 (.t 3), none⟩, ⟨some 53, .ld false 1 false (.t 52), none⟩, ⟨some 54, .mv false (.t 5), none⟩, ⟨some 55, .ia 1 (.t 53) (.t 54), none⟩, ⟨some 56, .ld false 1 false (.t 55), none⟩, ⟨some 57, .mv false (.t 6), none⟩, ⟨some 58, .ia 3 (.t 56) (.t 57), none⟩, ⟨some 59, .ld false 3 true (.t 58), none⟩, ⟨some 7, .al [.slice .nil [], .int .i64 0, .int .i64 0], none⟩, ⟨some 8, .al [.slice .nil [], .int .i64 0, .int .i64 0], none⟩, ⟨none, .st 3 (.t 7) (.t 51), none⟩],
       .seq ⟨none, .st 3 (.t 8) (.t 59), none⟩])
     (.seq (.reg [
       .seq ⟨some 60, .fa 2 (.t 7), none⟩,
       .seq ⟨some 61, .ld false 1 false (.t 60), none⟩,
       .seq ⟨some 62, .fa 2 (.t 8), none⟩,
       .seq ⟨some 63, .ld false 1 false (.t 62), none⟩,
       .seq ⟨some 64, .bin .neq 0 (.t 61) (.t 63), none⟩,
       .seq ⟨some 65, .mv false (.t 64), none⟩,
       .seq ⟨some 66, .fa 0 (.t 7), some (65, false)⟩,
       .seq ⟨some 67, .ld false 2 true (.t 66), some (65, false)⟩,
       .seq ⟨some 68, .fa 0 (.t 8), some (65, false)⟩,
       .seq ⟨some 69, .ld false 2 true (.t 68), some (65, false)⟩,
       .seq ⟨some 70, .call 82 [(.t 67), (.t 69)], some (65, false)⟩,
       .seq ⟨some 71, .un .not (.t 70), some (65, false)⟩,
       .seq ⟨some 72, .pick (.t 65) (.c (.bool true)) (.t 71), none⟩])
     (.cond (.t 72)
      (.seq (.reg [
        .seq ⟨some 4, .mv true (.c (.bool false)), none⟩])
      (.ret))
      (.nop))))))
    (.reg [
      .seq ⟨some 73, .bin .add 0 (.t 41) (.c (.int .i64 1)), none⟩,
      .seq ⟨some 41, .mv false (.t 73), none⟩]))))))))))
  (.reg [
    .seq ⟨some 74, .bin .add 0 (.t 19) (.c (.int .i64 1)), none⟩,
    .seq ⟨some 19, .mv false (.t 74), none⟩])))))))
 (.seq (.reg [
   .seq ⟨some 4, .mv true (.c (.bool true)), none⟩])
 (.ret))))
def a40 : AFunc := ⟨2, 75, [.t 4], c40, false⟩
/-- headland/headlandref04.Same -/
def c41 : ACode :=
 .seq (.reg [
   .seq ⟨some 2, .box 2 (.t 0), none⟩,
   .seq ⟨some 3, .box 2 (.t 1), none⟩,
   .seq ⟨some 4, .mv true (.c (.bool false)), none⟩])
 (.seq (.seq (.reg [
   .seq ⟨some 6, .fa 0 (.t 2), none⟩,
   .seq ⟨some 7, .ld false 1 false (.t 6), none⟩,
   .seq ⟨some 8, .fa 0 (.t 3), none⟩,
   .seq ⟨some 9, .ld false 1 false (.t 8), none⟩,
   .seq ⟨some 10, .bin .neq 0 (.t 7) (.t 9), none⟩,
   .seq ⟨some 11, .mv false (.t 10), none⟩,
   .seq ⟨some 12, .fa 1 (.t 2), some (11, false)⟩,
   .seq ⟨some 13, .ld false 1 false (.t 12), some (11, false)⟩,
   .seq ⟨some 14, .len false (.t 13), some (11, false)⟩,
   .seq ⟨some 15, .fa 1 (.t 3), some (11, false)⟩,
   .seq ⟨some 16, .ld false 1 false (.t 15), some (11, false)⟩,
   .seq ⟨some 17, .len false (.t 16), some (11, false)⟩,
   .seq ⟨some 18, .bin .neq 0 (.t 14) (.t 17), some (11, false)⟩,
   .seq ⟨some 19, .pick (.t 11) (.c (.bool true)) (.t 18), none⟩])
 (.cond (.t 19)
  (.seq (.reg [
    .seq ⟨some 4, .mv true (.c (.bool false)), none⟩])
  (.ret))
  (.nop)))
 (.seq (.seq (.reg [
   .seq ⟨some 20, .fa 1 (.t 2), none⟩,
   .seq ⟨some 21, .ld false 1 false (.t 20), none⟩,
   .seq ⟨some 22, .len false (.t 21), none⟩,
   .seq ⟨some 23, .mv false (.c (.int .i64 0)), none⟩])
 (.blk 0
  (.loop (.seq (.reg [
    .seq ⟨some 24, .bin .lss 0 (.t 23) (.t 22), none⟩])
  (.seq (.cond (.t 24)
   (.nop)
   (.exit 0))
  (.seq (.blk 1
   (.seq (.reg [
     .seq ⟨some 25, .mv false (.t 23), none⟩,
     .seq ⟨some 5, .mv true (.t 25), none⟩])
   (.seq (.reg [
     .free [⟨some 26, .fa 1 (.t 2), none⟩, ⟨some 27, .ld false 1 false (.t 26), none⟩, ⟨some 28, .mv false (.t 5), none⟩, ⟨some 29, .ia 1 (.t 27) (.t 28), none⟩, ⟨some 30, .ld false 1 false (.t 29), none⟩, ⟨some 31, .fa 1 (.t 3), none⟩, ⟨some 32, .ld false 1 false (.t 31), none⟩, ⟨some 33, .mv false (.t 5), none⟩, ⟨some 34, .ia 1 (.t 32) (.t 33), none⟩, ⟨some 35, .ld false 1 false (.t 34), none⟩],
     .seq ⟨some 36, .call 83 [(.t 30), (.t 35)], none⟩,
     .seq ⟨some 37, .un .not (.t 36), none⟩])
   (.cond (.t 37)
    (.seq (.reg [
      .seq ⟨some 4, .mv true (.c (.bool false)), none⟩])
    (.ret))
    (.nop)))))
  (.reg [
    .seq ⟨some 38, .bin .add 0 (.t 23) (.c (.int .i64 1)), none⟩,
    .seq ⟨some 23, .mv false (.t 38), none⟩])))))))
 (.seq (.reg [
   .seq ⟨some 4, .mv true (.c (.bool true)), none⟩])
 (.ret))))
def a41 : AFunc := ⟨2, 39, [.t 4], c41, false⟩
/-- headland/headlandref10.SameRef -/
def c42 : ACode :=
 .seq (.reg [
   .seq ⟨some 2, .box 2 (.t 0), none⟩,
   .seq ⟨some 3, .box 2 (.t 1), none⟩,
   .seq ⟨some 4, .mv true (.c (.bool false)), none⟩])
 (.seq (.reg [
   .seq ⟨some 5, .fa 0 (.t 2), none⟩,
   .seq ⟨some 6, .ld false 1 false (.t 5), none⟩,
   .seq ⟨some 7, .fa 0 (.t 3), none⟩,
   .seq ⟨some 8, .ld false 1 false (.t 7), none⟩,
   .seq ⟨some 9, .bin .eql 0 (.t 6) (.t 8), none⟩,
   .seq ⟨some 10, .mv false (.t 9), none⟩,
   .seq ⟨some 11, .fa 1 (.t 2), some (10, true)⟩,
   .seq ⟨some 12, .ld false 1 false (.t 11), some (10, true)⟩,
   .seq ⟨some 13, .fa 1 (.t 3), some (10, true)⟩,
   .seq ⟨some 14, .ld false 1 false (.t 13), some (10, true)⟩,
   .seq ⟨some 15, .call 52 [(.t 12), (.t 14)], some (10, true)⟩,
   .seq ⟨some 16, .pick (.t 10) (.t 15) (.c (.bool false)), none⟩,
   .seq ⟨some 4, .mv true (.t 16), none⟩])
 (.ret))
def a42 : AFunc := ⟨2, 17, [.t 4], c42, false⟩
/-- headland/headlandref10.SameExpr -/
def c43 : ACode :=
 .seq (.reg [
   .seq ⟨some 2, .box 7 (.t 0), none⟩,
   .seq ⟨some 3, .box 7 (.t 1), none⟩,
   .seq ⟨some 4, .mv true (.c (.bool false)), none⟩])
 (.seq (.seq (.reg [
   .seq ⟨some 6, .fa 0 (.t 2), none⟩,
   .seq ⟨some 7, .ld false 1 false (.t 6), none⟩,
   .seq ⟨some 8, .fa 0 (.t 3), none⟩,
   .seq ⟨some 9, .ld false 1 false (.t 8), none⟩,
   .seq ⟨some 10, .bin .neq 0 (.t 7) (.t 9), none⟩,
   .seq ⟨some 11, .mv false (.t 10), none⟩,
   .seq ⟨some 12, .fa 1 (.t 2), some (11, false)⟩,
   .seq ⟨some 13, .ld false 1 false (.t 12), some (11, false)⟩,
   .seq ⟨some 14, .fa 1 (.t 3), some (11, false)⟩,
   .seq ⟨some 15, .ld false 1 false (.t 14), some (11, false)⟩,
   .seq ⟨some 16, .bin .neq 0 (.t 13) (.t 15), some (11, false)⟩,
   .seq ⟨some 17, .pick (.t 11) (.c (.bool true)) (.t 16), none⟩,
   .seq ⟨some 18, .mv false (.t 17), none⟩,
   .seq ⟨some 19, .fa 2 (.t 2), some (18, false)⟩,
   .seq ⟨some 20, .ld false 2 true (.t 19), some (18, false)⟩,
   .seq ⟨some 21, .fa 2 (.t 3), some (18, false)⟩,
   .seq ⟨some 22, .ld false 2 true (.t 21), some (18, false)⟩,
   .seq ⟨some 23, .call 82 [(.t 20), (.t 22)], some (18, false)⟩,
   .seq ⟨some 24, .un .not (.t 23), some (18, false)⟩,
   .seq ⟨some 25, .pick (.t 18) (.c (.bool true)) (.t 24), none⟩,
   .seq ⟨some 26, .mv false (.t 25), none⟩,
   .seq ⟨some 27, .fa 4 (.t 2), some (26, false)⟩,
   .seq ⟨some 28, .ld false 2 true (.t 27), some (26, false)⟩,
   .seq ⟨some 29, .fa 4 (.t 3), some (26, false)⟩,
   .seq ⟨some 30, .ld false 2 true (.t 29), some (26, false)⟩,
   .seq ⟨some 31, .call 42 [(.t 28), (.t 30)], some (26, false)⟩,
   .seq ⟨some 32, .un .not (.t 31), some (26, false)⟩,
   .seq ⟨some 33, .pick (.t 26) (.c (.bool true)) (.t 32), none⟩,
   .seq ⟨some 34, .mv false (.t 33), none⟩,
   .seq ⟨some 35, .fa 6 (.t 2), some (34, false)⟩,
   .seq ⟨some 36, .ld false 1 false (.t 35), some (34, false)⟩,
   .seq ⟨some 37, .len false (.t 36), some (34, false)⟩,
   .seq ⟨some 38, .fa 6 (.t 3), some (34, false)⟩,
   .seq ⟨some 39, .ld false 1 false (.t 38), some (34, false)⟩,
   .seq ⟨some 40, .len false (.t 39), some (34, false)⟩,
   .seq ⟨some 41, .bin .neq 0 (.t 37) (.t 40), some (34, false)⟩,
   .seq ⟨some 42, .pick (.t 34) (.c (.bool true)) (.t 41), none⟩])
 (.cond (.t 42)
  (.seq (.reg [
    .seq ⟨some 4, .mv true (.c (.bool false)), none⟩])
  (.ret))
  (.nop)))
 (.seq (.seq (.reg [
   .seq ⟨some 43, .fa 6 (.t 2), none⟩,
   .seq ⟨some 44, .ld false 1 false (.t 43), none⟩,
   .seq ⟨some 45, .len false (.t 44), none⟩,
   .seq ⟨some 46, .mv false (.c (.int .i64 0)), none⟩])
 (.blk 0
  (.loop (.seq (.reg [
    .seq ⟨some 47, .bin .lss 0 (.t 46) (.t 45), none⟩])
  (.seq (.cond (.t 47)
   (.nop)
   (.exit 0))
  (.seq (.blk 1
   (.seq (.reg [
     .seq ⟨some 48, .mv false (.t 46), none⟩,
     .seq ⟨some 5, .mv true (.t 48), none⟩])
   (.seq (.reg [
     .free [⟨some 49, .fa 6 (.t 2), none⟩, ⟨some 50, .ld false 1 false (.t 49), none⟩, ⟨some 51, .mv false (.t 5), none⟩, ⟨some 52, .ia 7 (.t 50) (.t 51), none⟩, ⟨some 53, .ld false 7 true (.t 52), none⟩, ⟨some 54, .fa 6 (.t 3), none⟩, ⟨some 55, .ld false 1 false (.t 54), none⟩, ⟨some 56, .mv false (.t 5), none⟩, ⟨some 57, .ia 7 (.t 55) (.t 56), none⟩, ⟨some 58, .ld false 7 true (.t 57), none⟩],
     .seq ⟨some 59, .call 43 [(.t 53), (.t 58)], none⟩,
     .seq ⟨some 60, .un .not (.t 59), none⟩])
   (.cond (.t 60)
    (.seq (.reg [
      .seq ⟨some 4, .mv true (.c (.bool false)), none⟩])
    (.ret))
    (.nop)))))
  (.reg [
    .seq ⟨some 61, .bin .add 0 (.t 46) (.c (.int .i64 1)), none⟩,
    .seq ⟨some 46, .mv false (.t 61), none⟩])))))))
 (.seq (.reg [
   .seq ⟨some 4, .mv true (.c (.bool true)), none⟩])
 (.ret))))
def a43 : AFunc := ⟨2, 62, [.t 4], c43, false⟩
/-- headland/headlandref10.SameBody -/
def c44 : ACode :=
 .seq (.reg [
   .seq ⟨some 4, .mv true (.c (.bool false)), none⟩])
 (.seq (.seq (.reg [
   .seq ⟨some 6, .mv false (.t 0), none⟩,
   .seq ⟨some 7, .len false (.t 6), none⟩,
   .seq ⟨some 8, .mv false (.t 1), none⟩,
   .seq ⟨some 9, .len false (.t 8), none⟩,
   .seq ⟨some 10, .bin .neq 0 (.t 7) (.t 9), none⟩])
 (.cond (.t 10)
  (.seq (.reg [
    .seq ⟨some 4, .mv true (.c (.bool false)), none⟩])
  (.ret))
  (.nop)))
 (.seq (.seq (.reg [
   .seq ⟨some 11, .mv false (.t 0), none⟩,
   .seq ⟨some 12, .len false (.t 11), none⟩,
   .seq ⟨some 13, .mv false (.c (.int .i64 0)), none⟩])
 (.blk 0
  (.loop (.seq (.reg [
    .seq ⟨some 14, .bin .lss 0 (.t 13) (.t 12), none⟩])
  (.seq (.cond (.t 14)
   (.nop)
   (.exit 0))
  (.seq (.blk 1
   (.seq (.reg [
     .seq ⟨some 15, .mv false (.t 13), none⟩,
     .seq ⟨some 5, .mv true (.t 15), none⟩])
   (.seq (.reg [
     .free [⟨some 16, .mv false (.t 0), none⟩, ⟨some 17, .mv false (.t 5), none⟩, ⟨some 18, .ia 19 (.t 16) (.t 17), none⟩, ⟨some 19, .ld false 19 true (.t 18), none⟩, ⟨some 20, .mv false (.t 1), none⟩, ⟨some 21, .mv false (.t 5), none⟩, ⟨some 22, .ia 19 (.t 20) (.t 21), none⟩, ⟨some 23, .ld false 19 true (.t 22), none⟩],
     .seq ⟨some 24, .call 15 [(.t 19), (.t 23)], none⟩,
     .seq ⟨some 25, .un .not (.t 24), none⟩])
   (.cond (.t 25)
    (.seq (.reg [
      .seq ⟨some 4, .mv true (.c (.bool false)), none⟩])
    (.ret))
    (.nop)))))
  (.reg [
    .seq ⟨some 26, .bin .add 0 (.t 13) (.c (.int .i64 1)), none⟩,
    .seq ⟨some 13, .mv false (.t 26), none⟩])))))))
 (.seq (.reg [
   .seq ⟨some 4, .mv true (.c (.bool true)), none⟩])
 (.ret))))
def a44 : AFunc := ⟨2, 27, [.t 4], c44, false⟩
/-- slices.Equal[[]string,string] -/
def c45 : ACode :=
 .seq (.reg [
   .seq ⟨some 4, .mv true (.c (.bool false)), none⟩])
 (.seq (.seq (.reg [
   .seq ⟨some 6, .mv false (.t 0), none⟩,
   .seq ⟨some 7, .len false (.t 6), none⟩,
   .seq ⟨some 8, .mv false (.t 1), none⟩,
   .seq ⟨some 9, .len false (.t 8), none⟩,
   .seq ⟨some 10, .bin .neq 0 (.t 7) (.t 9), none⟩])
 (.cond (.t 10)
  (.seq (.reg [
    .seq ⟨some 4, .mv true (.c (.bool false)), none⟩])
  (.ret))
  (.nop)))
 (.seq (.seq (.reg [
   .seq ⟨some 11, .mv false (.t 0), none⟩,
   .seq ⟨some 12, .len false (.t 11), none⟩,
   .seq ⟨some 13, .mv false (.c (.int .i64 0)), none⟩])
 (.blk 0
  (.loop (.seq (.reg [
    .seq ⟨some 14, .bin .lss 0 (.t 13) (.t 12), none⟩])
  (.seq (.cond (.t 14)
   (.nop)
   (.exit 0))
  (.seq (.blk 1
   (.seq (.reg [
     .seq ⟨some 15, .mv false (.t 13), none⟩,
     .seq ⟨some 5, .mv true (.t 15), none⟩])
   (.seq (.reg [
     .free [⟨some 16, .mv false (.t 0), none⟩, ⟨some 17, .mv false (.t 5), none⟩, ⟨some 18, .ia 1 (.t 16) (.t 17), none⟩, ⟨some 19, .ld false 1 false (.t 18), none⟩, ⟨some 20, .mv false (.t 1), none⟩, ⟨some 21, .mv false (.t 5), none⟩, ⟨some 22, .ia 1 (.t 20) (.t 21), none⟩, ⟨some 23, .ld false 1 false (.t 22), none⟩],
     .seq ⟨some 24, .bin .neq 0 (.t 19) (.t 23), none⟩])
   (.cond (.t 24)
    (.seq (.reg [
      .seq ⟨some 4, .mv true (.c (.bool false)), none⟩])
    (.ret))
    (.nop)))))
  (.reg [
    .seq ⟨some 25, .bin .add 0 (.t 13) (.c (.int .i64 1)), none⟩,
    .seq ⟨some 13, .mv false (.t 25), none⟩])))))))
 (.seq (.reg [
   .seq ⟨some 4, .mv true (.c (.bool true)), none⟩])
 (.ret))))
def a45 : AFunc := ⟨2, 26, [.t 4], c45, false⟩
/-- slices.EqualFunc[[]headland/api.Stmt,[]headland/api.Stmt,headland/api.Stmt,headland/api.Stmt] -/
def c46 : ACode :=
 .seq (.reg [
   .seq ⟨some 6, .mv true (.c (.bool false)), none⟩])
 (.seq (.seq (.reg [
   .seq ⟨some 10, .mv false (.t 0), none⟩,
   .seq ⟨some 11, .len false (.t 10), none⟩,
   .seq ⟨some 12, .mv false (.t 1), none⟩,
   .seq ⟨some 13, .len false (.t 12), none⟩,
   .seq ⟨some 14, .bin .neq 0 (.t 11) (.t 13), none⟩])
 (.cond (.t 14)
  (.seq (.reg [
    .seq ⟨some 6, .mv true (.c (.bool false)), none⟩])
  (.ret))
  (.nop)))
 (.seq (.seq (.reg [
   .seq ⟨some 15, .mv false (.t 0), none⟩,
   .seq ⟨some 16, .len false (.t 15), none⟩,
   .seq ⟨some 17, .mv false (.c (.int .i64 0)), none⟩])
 (.blk 0
  (.loop (.seq (.reg [
    .seq ⟨some 18, .bin .lss 0 (.t 17) (.t 16), none⟩])
  (.seq (.cond (.t 18)
   (.nop)
   (.exit 0))
  (.seq (.blk 1
   (.seq (.reg [
     .seq ⟨some 19, .mv false (.t 17), none⟩,
     .seq ⟨some 20, .ia 19 (.t 15) (.t 17), none⟩,
     .seq ⟨some 21, .ld false 19 true (.t 20), none⟩,
     .seq ⟨some 8, .al [.int .i64 0, .str ⟨#[]⟩, .slice .nil [], .slice .nil [], .int .i64 0, .int .i64 0, .int .i64 0, .slice .nil [], .int .i64 0, .slice .nil [], .int .i64 0, .int .i64 0, .slice .nil [], .int .i64 0, .int .i64 0, .slice .nil [], .slice .nil [], .slice .nil [], .slice .nil []], none⟩,
     .seq ⟨some 7, .mv true (.t 19), none⟩,
     .seq ⟨none, .st 19 (.t 8) (.t 21), none⟩])
   (.seq (.reg [
     .seq ⟨some 22, .mv false (.t 1), none⟩,
     .seq ⟨some 23, .mv false (.t 7), none⟩,
     .seq ⟨some 24, .ia 19 (.t 22) (.t 23), none⟩,
     .seq ⟨some 25, .ld false 19 true (.t 24), none⟩,
     .seq ⟨some 9, .al [.int .i64 0, .str ⟨#[]⟩, .slice .nil [], .slice .nil [], .int .i64 0, .int .i64 0, .int .i64 0, .slice .nil [], .int .i64 0, .slice .nil [], .int .i64 0, .int .i64 0, .slice .nil [], .int .i64 0, .int .i64 0, .slice .nil [], .slice .nil [], .slice .nil [], .slice .nil []], none⟩,
     .seq ⟨none, .st 19 (.t 9) (.t 25), none⟩])
   (.seq (.reg [
     .seq ⟨some 26, .mv false (.t 2), none⟩,
     .seq ⟨some 27, .ld false 19 true (.t 8), none⟩,
     .seq ⟨some 28, .ld false 19 true (.t 9), none⟩,
     .seq ⟨some 29, .callv (.t 26) [(.t 27), (.t 28)], none⟩,
     .seq ⟨some 30, .un .not (.t 29), none⟩])
   (.cond (.t 30)
    (.seq (.reg [
      .seq ⟨some 6, .mv true (.c (.bool false)), none⟩])
    (.ret))
    (.nop))))))
  (.reg [
    .seq ⟨some 31, .bin .add 0 (.t 17) (.c (.int .i64 1)), none⟩,
    .seq ⟨some 17, .mv false (.t 31), none⟩])))))))
 (.seq (.reg [
   .seq ⟨some 6, .mv true (.c (.bool true)), none⟩])
 (.ret))))
def a46 : AFunc := ⟨3, 32, [.t 6], c46, false⟩
/-- headland/headlandref10.sameLins -/
def c52 : ACode :=
 .seq (.reg [
   .seq ⟨some 4, .mv true (.c (.bool false)), none⟩])
 (.seq (.seq (.reg [
   .seq ⟨some 6, .mv false (.t 0), none⟩,
   .seq ⟨some 7, .len false (.t 6), none⟩,
   .seq ⟨some 8, .mv false (.t 1), none⟩,
   .seq ⟨some 9, .len false (.t 8), none⟩,
   .seq ⟨some 10, .bin .neq 0 (.t 7) (.t 9), none⟩])
 (.cond (.t 10)
  (.seq (.reg [
    .seq ⟨some 4, .mv true (.c (.bool false)), none⟩])
  (.ret))
  (.nop)))
 (.seq (.seq (.reg [
   .seq ⟨some 11, .mv false (.t 0), none⟩,
   .seq ⟨some 12, .len false (.t 11), none⟩,
   .seq ⟨some 13, .mv false (.c (.int .i64 0)), none⟩])
 (.blk 0
  (.loop (.seq (.reg [
    .seq ⟨some 14, .bin .lss 0 (.t 13) (.t 12), none⟩])
  (.seq (.cond (.t 14)
   (.nop)
   (.exit 0))
  (.seq (.blk 1
   (.seq (.reg [
     .seq ⟨some 15, .mv false (.t 13), none⟩,
     .seq ⟨some 5, .mv true (.t 15), none⟩])
   (.seq (.reg [
     .free [⟨some 16, .mv false (.t 0), none⟩, ⟨some 17, .mv false (.t 5), none⟩, ⟨some 18, .ia 2 (.t 16) (.t 17), none⟩, ⟨some 19, .ld false 2 true (.t 18), none⟩, ⟨some 20, .mv false (.t 1), none⟩, ⟨some 21, .mv false (.t 5), none⟩, ⟨some 22, .ia 2 (.t 20) (.t 21), none⟩, ⟨some 23, .ld false 2 true (.t 22), none⟩],
     .seq ⟨some 24, .call 82 [(.t 19), (.t 23)], none⟩,
     .seq ⟨some 25, .un .not (.t 24), none⟩])
   (.cond (.t 25)
    (.seq (.reg [
      .seq ⟨some 4, .mv true (.c (.bool false)), none⟩])
    (.ret))
    (.nop)))))
  (.reg [
    .seq ⟨some 26, .bin .add 0 (.t 13) (.c (.int .i64 1)), none⟩,
    .seq ⟨some 13, .mv false (.t 26), none⟩])))))))
 (.seq (.reg [
   .seq ⟨some 4, .mv true (.c (.bool true)), none⟩])
 (.ret))))
def a52 : AFunc := ⟨2, 27, [.t 4], c52, false⟩
/-- headland/lang.CopyStmts -/
def c55 : ACode :=
 .seq (.reg [
   .seq ⟨some 2, .mv true (.c (.slice .nil [])), none⟩])
 (.seq (.reg [
   .seq ⟨some 3, .mv true (.c (.slice .nil [])), none⟩])
 (.seq (.seq (.reg [
   .seq ⟨some 6, .mv false (.t 0), none⟩,
   .seq ⟨some 7, .len false (.t 6), none⟩,
   .seq ⟨some 8, .mv false (.c (.int .i64 0)), none⟩])
 (.blk 0
  (.loop (.seq (.reg [
    .seq ⟨some 9, .bin .lss 0 (.t 8) (.t 7), none⟩])
  (.seq (.cond (.t 9)
   (.nop)
   (.exit 0))
  (.seq (.blk 1
   (.seq (.reg [
     .seq ⟨some 10, .ia 19 (.t 6) (.t 8), none⟩,
     .seq ⟨some 11, .ld false 19 true (.t 10), none⟩,
     .seq ⟨some 5, .al [.int .i64 0, .str ⟨#[]⟩, .slice .nil [], .slice .nil [], .int .i64 0, .int .i64 0, .int .i64 0, .slice .nil [], .int .i64 0, .slice .nil [], .int .i64 0, .int .i64 0, .slice .nil [], .int .i64 0, .int .i64 0, .slice .nil [], .slice .nil [], .slice .nil [], .slice .nil []], none⟩,
     .seq ⟨none, .st 19 (.t 5) (.t 11), none⟩])
   (.reg [
     .seq ⟨some 12, .mv true (.t 3), none⟩,
     .seq ⟨some 13, .ld false 19 true (.t 5), none⟩,
     .seq ⟨some 14, .call 37 [(.t 13)], none⟩,
     .seq ⟨some 15, .row 51 19 [(.t 14)], none⟩,
     .seq ⟨some 16, .app 51 19 304 (.t 12) (.t 15), none⟩,
     .seq ⟨some 3, .mv true (.t 16), none⟩])))
  (.reg [
    .seq ⟨some 17, .bin .add 0 (.t 8) (.c (.int .i64 1)), none⟩,
    .seq ⟨some 8, .mv false (.t 17), none⟩])))))))
 (.seq (.reg [
   .seq ⟨some 18, .mv true (.t 3), none⟩,
   .seq ⟨some 2, .mv true (.t 18), none⟩])
 (.ret))))
def a55 : AFunc := ⟨1, 19, [.t 2], c55, false⟩
/-- headland/headlandref10.weighExpr -/
def c63 : ACode :=
 .seq (.reg [
   .seq ⟨some 2, .box 7 (.t 0), none⟩,
   .seq ⟨some 4, .mv true (.c (.int .i64 0)), none⟩])
 (.seq (.reg [
   .seq ⟨some 8, .fa 4 (.t 2), none⟩,
   .seq ⟨some 9, .fa 1 (.t 8), none⟩,
   .seq ⟨some 10, .ld false 1 false (.t 9), none⟩,
   .seq ⟨some 11, .len false (.t 10), none⟩,
   .seq ⟨some 12, .bin .add 0 (.c (.int .i64 1)) (.t 11), none⟩,
   .seq ⟨some 5, .mv true (.t 12), none⟩])
 (.seq (.seq (.reg [
   .seq ⟨some 13, .fa 6 (.t 2), none⟩,
   .seq ⟨some 14, .ld false 1 false (.t 13), none⟩,
   .seq ⟨some 15, .len false (.t 14), none⟩,
   .seq ⟨some 16, .mv false (.c (.int .i64 0)), none⟩])
 (.blk 0
  (.loop (.seq (.reg [
    .seq ⟨some 17, .bin .lss 0 (.t 16) (.t 15), none⟩])
  (.seq (.cond (.t 17)
   (.nop)
   (.exit 0))
  (.seq (.blk 1
   (.seq (.reg [
     .seq ⟨some 18, .ia 7 (.t 14) (.t 16), none⟩,
     .seq ⟨some 19, .ld false 7 true (.t 18), none⟩,
     .seq ⟨some 7, .al [.int .i64 0, .int .i64 0, .slice .nil [], .int .i64 0, .int .i64 0, .slice .nil [], .slice .nil []], none⟩,
     .seq ⟨none, .st 7 (.t 7) (.t 19), none⟩])
   (.seq (.reg [
     .seq ⟨some 20, .mv false (.t 5), none⟩,
     .seq ⟨some 21, .mv false (.t 1), none⟩,
     .seq ⟨some 22, .bin .leq 0 (.t 20) (.t 21), none⟩])
   (.cond (.t 22)
    (.reg [
      .seq ⟨some 23, .mv false (.t 5), none⟩,
      .seq ⟨some 24, .ld false 7 true (.t 7), none⟩,
      .seq ⟨some 25, .mv false (.t 1), none⟩,
      .seq ⟨some 26, .mv false (.t 5), none⟩,
      .seq ⟨some 27, .bin .sub 0 (.t 25) (.t 26), none⟩,
      .seq ⟨some 28, .call 63 [(.t 24), (.t 27)], none⟩,
      .seq ⟨some 29, .bin .add 0 (.t 23) (.t 28), none⟩,
      .seq ⟨some 5, .mv true (.t 29), none⟩])
    (.nop)))))
  (.reg [
    .seq ⟨some 30, .bin .add 0 (.t 16) (.c (.int .i64 1)), none⟩,
    .seq ⟨some 16, .mv false (.t 30), none⟩])))))))
 (.seq (.reg [
   .seq ⟨some 31, .mv true (.t 5), none⟩,
   .seq ⟨some 4, .mv true (.t 31), none⟩])
 (.ret))))
def a63 : AFunc := ⟨2, 32, [.t 4], c63, false⟩
/-- headland/lang.need -/
def c64 : ACode :=
 .seq (.reg [
   .seq ⟨some 2, .mv false (.t 0), none⟩,
   .seq ⟨some 3, .un .not (.t 2), none⟩])
 (.cond (.t 3)
  (.reg [
    .seq ⟨some 4, .bld [] [], none⟩,
    .seq ⟨some 5, .mki 86 (.t 4), none⟩,
    .seq ⟨none, .pan (.t 5), none⟩])
  (.nop))
def a64 : AFunc := ⟨1, 6, [], c64, false⟩
/-- headland/lang.named -/
def c65 : ACode :=
 .seq (.reg [
   .seq ⟨some 4, .mv true (.c (.bool false)), none⟩])
 (.seq (.reg [
   .seq ⟨some 5, .mv false (.t 0), none⟩,
   .seq ⟨some 6, .call 96 [(.t 5)], none⟩,
   .seq ⟨some 7, .mv false (.t 6), none⟩,
   .seq ⟨some 8, .mv false (.t 1), some (7, true)⟩,
   .seq ⟨some 9, .mv false (.t 0), some (7, true)⟩,
   .seq ⟨some 10, .call 97 [(.t 8), (.t 9)], some (7, true)⟩,
   .seq ⟨some 11, .un .not (.t 10), some (7, true)⟩,
   .seq ⟨some 12, .pick (.t 7) (.t 11) (.c (.bool false)), none⟩,
   .seq ⟨some 4, .mv true (.t 12), none⟩])
 (.ret))
def a65 : AFunc := ⟨2, 13, [.t 4], c65, false⟩
/-- headland/lang.over -/
def c66 : ACode :=
 .seq (.reg [
   .seq ⟨some 2, .box 2 (.t 0), none⟩,
   .seq ⟨some 4, .mv true (.c (.bool false)), none⟩])
 (.seq (.reg [
   .seq ⟨some 5, .fa 0 (.t 2), none⟩,
   .seq ⟨some 6, .ld false 1 false (.t 5), none⟩,
   .seq ⟨some 7, .len false (.t 6), none⟩,
   .seq ⟨some 8, .mv false (.t 1), none⟩,
   .seq ⟨some 9, .bin .eql 0 (.t 7) (.t 8), none⟩,
   .seq ⟨some 10, .mv false (.t 9), none⟩,
   .seq ⟨some 11, .ld false 2 true (.t 2), some (10, true)⟩,
   .seq ⟨some 12, .call 98 [(.t 11)], some (10, true)⟩,
   .seq ⟨some 13, .pick (.t 10) (.t 12) (.c (.bool false)), none⟩,
   .seq ⟨some 4, .mv true (.t 13), none⟩])
 (.ret))
def a66 : AFunc := ⟨2, 14, [.t 4], c66, false⟩
/-- headland/lang.kindOf -/
def c67 : ACode :=
 .seq (.reg [
   .seq ⟨some 1, .box 19 (.t 0), none⟩,
   .seq ⟨some 2, .mv true (.c (.nili)), none⟩])
 (.seq (.seq (.reg [
   .seq ⟨some 3, .fa 0 (.t 1), none⟩,
   .seq ⟨some 4, .ld false 1 false (.t 3), none⟩])
 (.blk 0
  (.seq (.reg [
    .seq ⟨some 6, .bin .eql 0 (.t 4) (.c (.int .i64 1)), none⟩,
    .seq ⟨some 5, .mv true (.t 6), none⟩])
  (.cond (.t 5)
   (.seq (.reg [
     .seq ⟨some 7, .ld false 19 true (.t 1), none⟩,
     .seq ⟨some 8, .bld [.int .i64 0, .str ⟨#[]⟩, .slice .nil [], .slice .nil [], .int .i64 0, .int .i64 0, .int .i64 0, .slice .nil [], .int .i64 0, .slice .nil [], .int .i64 0, .int .i64 0, .slice .nil [], .int .i64 0, .int .i64 0, .slice .nil [], .slice .nil [], .slice .nil [], .slice .nil []] [(0, 19, (.t 7))], none⟩,
     .seq ⟨some 9, .mki 174 (.t 8), none⟩,
     .seq ⟨some 2, .mv true (.t 9), none⟩])
   (.ret))
   (.seq (.reg [
     .seq ⟨some 11, .bin .eql 0 (.t 4) (.c (.int .i64 2)), none⟩,
     .seq ⟨some 10, .mv true (.t 11), none⟩])
   (.cond (.t 10)
    (.seq (.reg [
      .seq ⟨some 12, .ld false 19 true (.t 1), none⟩,
      .seq ⟨some 13, .bld [.int .i64 0, .str ⟨#[]⟩, .slice .nil [], .slice .nil [], .int .i64 0, .int .i64 0, .int .i64 0, .slice .nil [], .int .i64 0, .slice .nil [], .int .i64 0, .int .i64 0, .slice .nil [], .int .i64 0, .int .i64 0, .slice .nil [], .slice .nil [], .slice .nil [], .slice .nil []] [(0, 19, (.t 12))], none⟩,
      .seq ⟨some 14, .mki 175 (.t 13), none⟩,
      .seq ⟨some 2, .mv true (.t 14), none⟩])
    (.ret))
    (.seq (.reg [
      .seq ⟨some 16, .bin .eql 0 (.t 4) (.c (.int .i64 3)), none⟩,
      .seq ⟨some 15, .mv true (.t 16), none⟩])
    (.cond (.t 15)
     (.seq (.reg [
       .seq ⟨some 17, .ld false 19 true (.t 1), none⟩,
       .seq ⟨some 18, .bld [.int .i64 0, .str ⟨#[]⟩, .slice .nil [], .slice .nil [], .int .i64 0, .int .i64 0, .int .i64 0, .slice .nil [], .int .i64 0, .slice .nil [], .int .i64 0, .int .i64 0, .slice .nil [], .int .i64 0, .int .i64 0, .slice .nil [], .slice .nil [], .slice .nil [], .slice .nil []] [(0, 19, (.t 17))], none⟩,
       .seq ⟨some 19, .mki 176 (.t 18), none⟩,
       .seq ⟨some 2, .mv true (.t 19), none⟩])
     (.ret))
     (.nop)))))))))
 (.reg [
   .seq ⟨some 20, .bld [] [], none⟩,
   .seq ⟨some 21, .mki 86 (.t 20), none⟩,
   .seq ⟨none, .pan (.t 21), none⟩]))
def a67 : AFunc := ⟨1, 22, [.t 2], c67, false⟩
/-- headland/headlandref10.over -/
def c68 : ACode :=
 .seq (.reg [
   .seq ⟨some 2, .box 2 (.t 0), none⟩,
   .seq ⟨some 4, .mv true (.c (.bool false)), none⟩])
 (.seq (.reg [
   .seq ⟨some 5, .ld false 2 true (.t 2), none⟩,
   .seq ⟨some 6, .call 99 [(.t 5)], none⟩,
   .seq ⟨some 7, .mv false (.t 6), none⟩,
   .seq ⟨some 8, .fa 0 (.t 2), some (7, true)⟩,
   .seq ⟨some 9, .ld false 1 false (.t 8), some (7, true)⟩,
   .seq ⟨some 10, .len false (.t 9), some (7, true)⟩,
   .seq ⟨some 11, .mv false (.t 1), some (7, true)⟩,
   .seq ⟨some 12, .bin .eql 0 (.t 10) (.t 11), some (7, true)⟩,
   .seq ⟨some 13, .pick (.t 7) (.t 12) (.c (.bool false)), none⟩,
   .seq ⟨some 4, .mv true (.t 13), none⟩])
 (.ret))
def a68 : AFunc := ⟨2, 14, [.t 4], c68, false⟩
/-- headland/headlandref08.Name -/
def c69 : ACode :=
 .seq (.reg [
   .seq ⟨some 2, .mv true (.c (.bool false)), none⟩])
 (.seq (.seq (.reg [
   .seq ⟨some 6, .mv false (.t 0), none⟩,
   .seq ⟨some 7, .bin .eql 0 (.t 6) (.c (.str ⟨#[]⟩)), none⟩,
   .seq ⟨some 8, .mv false (.t 7), none⟩,
   .seq ⟨some 9, .mv false (.t 0), some (8, false)⟩,
   .seq ⟨some 10, .len true (.t 9), some (8, false)⟩,
   .seq ⟨some 11, .bin .gtr 0 (.t 10) (.c (.int .i64 12)), some (8, false)⟩,
   .seq ⟨some 12, .pick (.t 8) (.c (.bool true)) (.t 11), none⟩,
   .seq ⟨some 13, .mv false (.t 12), none⟩,
   .seq ⟨some 14, .mv false (.t 0), some (13, false)⟩,
   .seq ⟨some 15, .sx (.t 14) (.c (.int .i64 0)), some (13, false)⟩,
   .seq ⟨some 16, .call 100 [(.t 15)], some (13, false)⟩,
   .seq ⟨some 17, .un .not (.t 16), some (13, false)⟩,
   .seq ⟨some 18, .pick (.t 13) (.c (.bool true)) (.t 17), none⟩])
 (.cond (.t 18)
  (.seq (.reg [
    .seq ⟨some 2, .mv true (.c (.bool false)), none⟩])
  (.ret))
  (.nop)))
 (.seq (.seq (.reg [
   .seq ⟨some 3, .mv true (.c (.int .i64 0)), none⟩])
 (.blk 0
  (.loop (.seq (.seq (.reg [
    .seq ⟨some 19, .mv false (.t 3), none⟩,
    .seq ⟨some 20, .mv false (.t 0), none⟩,
    .seq ⟨some 21, .len true (.t 20), none⟩,
    .seq ⟨some 22, .bin .lss 0 (.t 19) (.t 21), none⟩])
  (.cond (.t 22)
   (.nop)
   (.exit 0)))
  (.seq (.blk 1
   (.seq (.reg [
     .seq ⟨some 25, .mv false (.t 0), none⟩,
     .seq ⟨some 26, .mv false (.t 3), none⟩,
     .seq ⟨some 27, .sx (.t 25) (.t 26), none⟩,
     .seq ⟨some 28, .call 100 [(.t 27)], none⟩,
     .seq ⟨some 29, .un .not (.t 28), none⟩,
     .seq ⟨some 30, .mv false (.t 29), none⟩,
     .seq ⟨some 31, .mv false (.t 0), some (30, true)⟩,
     .seq ⟨some 32, .mv false (.t 3), some (30, true)⟩,
     .seq ⟨some 33, .sx (.t 31) (.t 32), some (30, true)⟩,
     .seq ⟨some 34, .call 101 [(.t 33)], some (30, true)⟩,
     .seq ⟨some 35, .un .not (.t 34), some (30, true)⟩,
     .seq ⟨some 36, .pick (.t 30) (.t 35) (.c (.bool false)), none⟩])
   (.cond (.t 36)
    (.seq (.reg [
      .seq ⟨some 2, .mv true (.c (.bool false)), none⟩])
    (.ret))
    (.nop))))
  (.reg [
    .seq ⟨some 23, .mv false (.t 3), none⟩,
    .seq ⟨some 24, .bin .add 0 (.t 23) (.c (.int .i64 1)), none⟩,
    .seq ⟨some 3, .mv true (.t 24), none⟩]))))))
 (.seq (.seq (.reg [
   .seq ⟨some 37, .call 102 [], none⟩,
   .seq ⟨some 38, .len false (.t 37), none⟩,
   .seq ⟨some 39, .mv false (.c (.int .i64 0)), none⟩])
 (.blk 2
  (.loop (.seq (.reg [
    .seq ⟨some 40, .bin .lss 0 (.t 39) (.t 38), none⟩])
  (.seq (.cond (.t 40)
   (.nop)
   (.exit 2))
  (.seq (.blk 3
   (.seq (.reg [
     .seq ⟨some 41, .ia 1 (.t 37) (.t 39), none⟩,
     .seq ⟨some 42, .ld false 1 false (.t 41), none⟩,
     .seq ⟨some 5, .mv true (.t 42), none⟩])
   (.seq (.reg [
     .seq ⟨some 43, .mv false (.t 0), none⟩,
     .seq ⟨some 44, .mv false (.t 5), none⟩,
     .seq ⟨some 45, .bin .eql 0 (.t 43) (.t 44), none⟩])
   (.cond (.t 45)
    (.seq (.reg [
      .seq ⟨some 2, .mv true (.c (.bool false)), none⟩])
    (.ret))
    (.nop)))))
  (.reg [
    .seq ⟨some 46, .bin .add 0 (.t 39) (.c (.int .i64 1)), none⟩,
    .seq ⟨some 39, .mv false (.t 46), none⟩])))))))
 (.seq (.reg [
   .seq ⟨some 2, .mv true (.c (.bool true)), none⟩])
 (.ret)))))
def a69 : AFunc := ⟨1, 47, [.t 2], c69, false⟩
/-- headland/headlandref10.is -/
def c70 : ACode :=
 .seq (.reg [
   .seq ⟨some 4, .mv true (.c (.bool false)), none⟩])
 (.seq (.seq (.reg [
   .seq ⟨some 7, .mv false (.t 0), none⟩,
   .seq ⟨some 8, .len false (.t 7), none⟩,
   .seq ⟨some 9, .mv false (.c (.int .i64 0)), none⟩])
 (.blk 0
  (.loop (.seq (.reg [
    .seq ⟨some 10, .bin .lss 0 (.t 9) (.t 8), none⟩])
  (.seq (.cond (.t 10)
   (.nop)
   (.exit 0))
  (.seq (.blk 1
   (.seq (.reg [
     .seq ⟨some 11, .ia 1 (.t 7) (.t 9), none⟩,
     .seq ⟨some 12, .ld false 1 false (.t 11), none⟩,
     .seq ⟨some 6, .mv true (.t 12), none⟩])
   (.seq (.reg [
     .seq ⟨some 13, .mv false (.t 1), none⟩,
     .seq ⟨some 14, .mv false (.t 6), none⟩,
     .seq ⟨some 15, .bin .eql 0 (.t 13) (.t 14), none⟩])
   (.cond (.t 15)
    (.seq (.reg [
      .seq ⟨some 4, .mv true (.c (.bool true)), none⟩])
    (.ret))
    (.nop)))))
  (.reg [
    .seq ⟨some 16, .bin .add 0 (.t 9) (.c (.int .i64 1)), none⟩,
    .seq ⟨some 9, .mv false (.t 16), none⟩])))))))
 (.seq (.reg [
   .seq ⟨some 4, .mv true (.c (.bool false)), none⟩])
 (.ret)))
def a70 : AFunc := ⟨2, 17, [.t 4], c70, false⟩
/-- headland/headlandlaw10.at -/
def c72 : ACode :=
 .seq (.reg [
   .seq ⟨some 6, .al [.slice .nil [], .int .i64 0], none⟩])
 (.seq (.reg [
   .seq ⟨some 7, .mv false (.t 0), none⟩,
   .seq ⟨some 8, .mv false (.t 1), none⟩,
   .seq ⟨some 9, .row 3 1 [(.t 7), (.t 8)], none⟩,
   .seq ⟨some 10, .mv false (.t 2), none⟩,
   .seq ⟨some 11, .bld [.slice .nil [], .int .i64 0] [(0, 1, (.t 9)), (1, 1, (.t 10))], none⟩,
   .seq ⟨none, .st 2 (.t 6) (.t 11), none⟩])
 (.ret))
def a72 : AFunc := ⟨3, 12, [.c 6 2 true], c72, false⟩
/-- headland/headlandlaw10.one -/
def c73 : ACode :=
 .seq (.reg [
   .seq ⟨some 1, .box 2 (.t 0), none⟩,
   .seq ⟨some 2, .al [.slice .nil []], none⟩])
 (.seq (.reg [
   .seq ⟨some 3, .ld false 2 true (.t 1), none⟩,
   .seq ⟨some 4, .bld [.slice .nil [], .int .i64 0, .int .i64 0] [(0, 2, (.t 3)), (2, 1, (.c (.int .i64 1)))], none⟩,
   .seq ⟨some 5, .row 156 3 [(.t 4)], none⟩,
   .seq ⟨some 6, .row 130 1 [(.t 5)], none⟩,
   .seq ⟨some 7, .bld [.slice .nil []] [(0, 1, (.t 6))], none⟩,
   .seq ⟨none, .st 1 (.t 2) (.t 7), none⟩])
 (.ret))
def a73 : AFunc := ⟨1, 8, [.c 2 1 true], c73, false⟩
/-- headland/lang.walk$1 -/
def c74 : ACode :=
 .seq (.reg [
   .seq ⟨some 2, .box 1 (.t 0), none⟩])
 (.seq (.reg [
   .seq ⟨some 3, .al [.nilf], none⟩])
 (.seq (.reg [
   .seq ⟨some 4, .fn 75 [(.t 2), (.t 3)], none⟩,
   .seq ⟨none, .st 1 (.t 3) (.t 4), none⟩])
 (.reg [
   .seq ⟨some 5, .ld false 1 false (.t 3), none⟩,
   .seq ⟨some 6, .fa 2 (.t 1), none⟩,
   .seq ⟨some 7, .ld false 1 false (.t 6), none⟩,
   .seq ⟨some 8, .fa 0 (.t 1), none⟩,
   .seq ⟨some 9, .ld false 1 false (.t 8), none⟩,
   .seq ⟨some 10, .callv (.t 5) [(.t 7), (.c (.slice .nil [])), (.t 9)], none⟩])))
def a74 : AFunc := ⟨2, 11, [], c74, false⟩
/-- headland/lang.walk$1$1 -/
def c75 : ACode :=
 .seq (.reg [
   .seq ⟨some 8, .mv true (.c (.bool false)), none⟩])
 (.seq (.seq (.reg [
   .seq ⟨some 13, .mv false (.t 0), none⟩,
   .seq ⟨some 14, .len false (.t 13), none⟩,
   .seq ⟨some 15, .mv false (.c (.int .i64 0)), none⟩])
 (.blk 0
  (.loop (.seq (.reg [
    .seq ⟨some 16, .bin .lss 0 (.t 15) (.t 14), none⟩])
  (.seq (.cond (.t 16)
   (.nop)
   (.exit 0))
  (.seq (.blk 1
   (.seq (.reg [
     .seq ⟨some 17, .mv false (.t 15), none⟩,
     .seq ⟨some 18, .ia 19 (.t 13) (.t 15), none⟩,
     .seq ⟨some 19, .ld false 19 true (.t 18), none⟩,
     .seq ⟨some 10, .al [.int .i64 0, .str ⟨#[]⟩, .slice .nil [], .slice .nil [], .int .i64 0, .int .i64 0, .int .i64 0, .slice .nil [], .int .i64 0, .slice .nil [], .int .i64 0, .int .i64 0, .slice .nil [], .int .i64 0, .int .i64 0, .slice .nil [], .slice .nil [], .slice .nil [], .slice .nil []], none⟩,
     .seq ⟨some 9, .mv true (.t 17), none⟩,
     .seq ⟨none, .st 19 (.t 10) (.t 19), none⟩])
   (.seq (.reg [
     .seq ⟨some 20, .mv false (.t 1), none⟩,
     .seq ⟨some 21, .call 76 [(.t 20)], none⟩,
     .seq ⟨some 22, .mv false (.t 9), none⟩,
     .seq ⟨some 23, .row 3 1 [(.t 22)], none⟩,
     .seq ⟨some 24, .app 3 1 8 (.t 21) (.t 23), none⟩,
     .seq ⟨some 11, .mv true (.t 24), none⟩])
   (.seq (.seq (.reg [
     .free [⟨some 25, .ld false 1 false (.t 3), none⟩, ⟨some 26, .mv false (.t 11), none⟩, ⟨some 27, .mv false (.t 2), none⟩, ⟨some 28, .call 32 [(.t 27)], none⟩, ⟨some 29, .ld false 19 true (.t 10), none⟩, ⟨some 30, .bld [.slice .nil [], .slice .nil [], .int .i64 0, .str ⟨#[]⟩, .slice .nil [], .slice .nil [], .int .i64 0, .int .i64 0, .int .i64 0, .slice .nil [], .int .i64 0, .slice .nil [], .int .i64 0, .int .i64 0, .slice .nil [], .int .i64 0, .int .i64 0, .slice .nil [], .slice .nil [], .slice .nil [], .slice .nil []] [(0, 1, (.t 26)), (1, 1, (.t 28)), (2, 19, (.t 29))], none⟩],
     .seq ⟨some 31, .callv (.t 25) [(.t 30)], none⟩,
     .seq ⟨some 32, .un .not (.t 31), none⟩])
   (.cond (.t 32)
    (.seq (.reg [
      .seq ⟨some 8, .mv true (.c (.bool false)), none⟩])
    (.ret))
    (.nop)))
   (.seq (.reg [
     .seq ⟨some 33, .mv false (.t 2), none⟩,
     .seq ⟨some 12, .mv true (.t 33), none⟩])
   (.seq (.seq (.reg [
     .seq ⟨some 34, .fa 0 (.t 10), none⟩,
     .seq ⟨some 35, .ld false 1 false (.t 34), none⟩,
     .seq ⟨some 36, .bin .eql 0 (.t 35) (.c (.int .i64 1)), none⟩])
   (.cond (.t 36)
    (.reg [
      .free [⟨some 37, .mv false (.t 2), none⟩, ⟨some 38, .call 32 [(.t 37)], none⟩, ⟨some 39, .fa 1 (.t 10), none⟩, ⟨some 40, .ld false 1 false (.t 39), none⟩, ⟨some 41, .row 9 1 [(.t 40)], none⟩],
      .seq ⟨some 42, .app 9 1 16 (.t 38) (.t 41), none⟩,
      .seq ⟨some 12, .mv true (.t 42), none⟩])
    (.nop)))
   (.seq (.reg [
     .free [⟨some 43, .ld false 1 false (.t 4), none⟩, ⟨some 44, .fa 17 (.t 10), none⟩, ⟨some 45, .ld false 1 false (.t 44), none⟩, ⟨some 46, .mv false (.t 11), none⟩, ⟨some 47, .call 76 [(.t 46)], none⟩, ⟨some 48, .row 3 1 [(.c (.int .i64 0))], none⟩, ⟨some 49, .app 3 1 8 (.t 47) (.t 48), none⟩, ⟨some 50, .mv false (.t 12), none⟩],
     .seq ⟨some 51, .callv (.t 43) [(.t 45), (.t 49), (.t 50)], none⟩,
     .seq ⟨some 52, .un .not (.t 51), none⟩,
     .seq ⟨some 53, .mv false (.t 52), none⟩,
     .free [⟨some 54, .ld false 1 false (.t 4), some (53, false)⟩, ⟨some 55, .fa 18 (.t 10), some (53, false)⟩, ⟨some 56, .ld false 1 false (.t 55), some (53, false)⟩, ⟨some 57, .mv false (.t 11), some (53, false)⟩, ⟨some 58, .call 76 [(.t 57)], some (53, false)⟩, ⟨some 59, .row 3 1 [(.c (.int .i64 1))], some (53, false)⟩, ⟨some 60, .app 3 1 8 (.t 58) (.t 59), some (53, false)⟩, ⟨some 61, .mv false (.t 12), some (53, false)⟩],
     .seq ⟨some 62, .callv (.t 54) [(.t 56), (.t 60), (.t 61)], some (53, false)⟩,
     .seq ⟨some 63, .un .not (.t 62), some (53, false)⟩,
     .seq ⟨some 64, .pick (.t 53) (.c (.bool true)) (.t 63), none⟩])
   (.cond (.t 64)
    (.seq (.reg [
      .seq ⟨some 8, .mv true (.c (.bool false)), none⟩])
    (.ret))
    (.nop)))))))))
  (.reg [
    .seq ⟨some 65, .bin .add 0 (.t 15) (.c (.int .i64 1)), none⟩,
    .seq ⟨some 15, .mv false (.t 65), none⟩])))))))
 (.seq (.reg [
   .seq ⟨some 8, .mv true (.c (.bool true)), none⟩])
 (.ret)))
def a75 : AFunc := ⟨5, 66, [.t 8], c75, false⟩
/-- slices.Clone[[]int,int] -/
def c76 : ACode :=
 .seq (.reg [
   .seq ⟨some 2, .mv true (.c (.slice .nil [])), none⟩])
 (.seq (.seq (.reg [
   .seq ⟨some 3, .mv false (.t 0), none⟩,
   .seq ⟨some 4, .isn false (.t 3), none⟩])
 (.cond (.t 4)
  (.seq (.reg [
    .seq ⟨some 2, .mv true (.c (.slice .nil [])), none⟩])
  (.ret))
  (.nop)))
 (.seq (.reg [
   .seq ⟨some 5, .row 3 1 [], none⟩,
   .seq ⟨some 6, .mv false (.t 0), none⟩,
   .seq ⟨some 7, .app 3 1 8 (.t 5) (.t 6), none⟩,
   .seq ⟨some 2, .mv true (.t 7), none⟩])
 (.ret)))
def a76 : AFunc := ⟨1, 8, [.t 2], c76, false⟩
/-- headland/lang.CopyBound -/
def c77 : ACode :=
 .seq (.reg [
   .seq ⟨some 1, .box 1 (.t 0), none⟩,
   .seq ⟨some 2, .al [.slice .nil []], none⟩])
 (.seq (.reg [
   .seq ⟨some 3, .al [.slice .nil []], none⟩])
 (.seq (.seq (.reg [
   .seq ⟨some 9, .fa 0 (.t 1), none⟩,
   .seq ⟨some 10, .ld false 1 false (.t 9), none⟩,
   .seq ⟨some 11, .len false (.t 10), none⟩,
   .seq ⟨some 12, .mv false (.c (.int .i64 0)), none⟩])
 (.blk 0
  (.loop (.seq (.reg [
    .seq ⟨some 13, .bin .lss 0 (.t 12) (.t 11), none⟩])
  (.seq (.cond (.t 13)
   (.nop)
   (.exit 0))
  (.seq (.blk 1
   (.seq (.reg [
     .seq ⟨some 14, .ia 1 (.t 10) (.t 12), none⟩,
     .seq ⟨some 15, .ld false 1 false (.t 14), none⟩,
     .seq ⟨some 5, .mv true (.t 15), none⟩])
   (.seq (.reg [
     .seq ⟨some 6, .mv true (.c (.slice .nil [])), none⟩])
   (.seq (.seq (.reg [
     .seq ⟨some 16, .mv false (.t 5), none⟩,
     .seq ⟨some 17, .len false (.t 16), none⟩,
     .seq ⟨some 18, .mv false (.c (.int .i64 0)), none⟩])
   (.blk 2
    (.loop (.seq (.reg [
      .seq ⟨some 19, .bin .lss 0 (.t 18) (.t 17), none⟩])
    (.seq (.cond (.t 19)
     (.nop)
     (.exit 2))
    (.seq (.blk 3
     (.seq (.reg [
       .seq ⟨some 20, .ia 3 (.t 16) (.t 18), none⟩,
       .seq ⟨some 21, .ld false 3 true (.t 20), none⟩,
       .seq ⟨some 8, .al [.slice .nil [], .int .i64 0, .int .i64 0], none⟩,
       .seq ⟨none, .st 3 (.t 8) (.t 21), none⟩])
     (.reg [
       .free [⟨some 22, .mv true (.t 6), none⟩, ⟨some 23, .fa 0 (.t 8), none⟩, ⟨some 24, .ld false 2 true (.t 23), none⟩, ⟨some 25, .call 88 [(.t 24)], none⟩, ⟨some 26, .fa 2 (.t 8), none⟩, ⟨some 27, .ld false 1 false (.t 26), none⟩, ⟨some 28, .bld [.slice .nil [], .int .i64 0, .int .i64 0] [(0, 2, (.t 25)), (2, 1, (.t 27))], none⟩, ⟨some 29, .row 156 3 [(.t 28)], none⟩],
       .seq ⟨some 30, .app 156 3 40 (.t 22) (.t 29), none⟩,
       .seq ⟨some 6, .mv true (.t 30), none⟩])))
    (.reg [
      .seq ⟨some 31, .bin .add 0 (.t 18) (.c (.int .i64 1)), none⟩,
      .seq ⟨some 18, .mv false (.t 31), none⟩])))))))
   (.reg [
     .seq ⟨some 32, .fa 0 (.t 3), none⟩,
     .seq ⟨some 33, .ld true 1 false (.t 32), none⟩,
     .seq ⟨some 34, .mv false (.t 6), none⟩,
     .seq ⟨some 35, .row 130 1 [(.t 34)], none⟩,
     .seq ⟨some 36, .app 130 1 24 (.t 33) (.t 35), none⟩,
     .seq ⟨some 37, .fa 0 (.t 3), none⟩,
     .seq ⟨none, .st 1 (.t 37) (.t 36), none⟩])))))
  (.reg [
    .seq ⟨some 38, .bin .add 0 (.t 12) (.c (.int .i64 1)), none⟩,
    .seq ⟨some 12, .mv false (.t 38), none⟩])))))))
 (.seq (.reg [
   .seq ⟨some 39, .ld false 1 true (.t 3), none⟩,
   .seq ⟨none, .st 1 (.t 2) (.t 39), none⟩])
 (.ret))))
def a77 : AFunc := ⟨1, 40, [.c 2 1 true], c77, false⟩
/-- headland/set.Copy -/
def c78 : ACode :=
 .seq (.reg [
   .seq ⟨some 2, .mv true (.c (.slice .nil [])), none⟩])
 (.seq (.reg [
   .seq ⟨some 6, .mv false (.t 0), none⟩,
   .seq ⟨some 7, .len false (.t 6), none⟩,
   .seq ⟨some 8, .mk 181 4 48 [.int .i64 0, .int .i64 0, .slice .nil [], .int .i64 0] (.t 7) (.t 7), none⟩,
   .seq ⟨some 3, .mv true (.t 8), none⟩])
 (.seq (.seq (.reg [
   .seq ⟨some 9, .mv false (.t 0), none⟩,
   .seq ⟨some 10, .len false (.t 9), none⟩,
   .seq ⟨some 11, .mv false (.c (.int .i64 0)), none⟩])
 (.blk 0
  (.loop (.seq (.reg [
    .seq ⟨some 12, .bin .lss 0 (.t 11) (.t 10), none⟩])
  (.seq (.cond (.t 12)
   (.nop)
   (.exit 0))
  (.seq (.blk 1
   (.seq (.reg [
     .seq ⟨some 13, .mv false (.t 11), none⟩,
     .seq ⟨some 14, .ia 4 (.t 9) (.t 11), none⟩,
     .seq ⟨some 15, .ld false 4 true (.t 14), none⟩,
     .seq ⟨some 5, .al [.int .i64 0, .int .i64 0, .slice .nil [], .int .i64 0], none⟩,
     .seq ⟨some 4, .mv true (.t 13), none⟩,
     .seq ⟨none, .st 4 (.t 5) (.t 15), none⟩])
   (.reg [
     .free [⟨some 16, .mv false (.t 3), none⟩, ⟨some 17, .mv false (.t 4), none⟩, ⟨some 18, .fa 0 (.t 5), none⟩, ⟨some 19, .ld false 1 false (.t 18), none⟩, ⟨some 20, .fa 1 (.t 5), none⟩, ⟨some 21, .ld false 1 false (.t 20), none⟩, ⟨some 22, .fa 2 (.t 5), none⟩, ⟨some 23, .fa 0 (.t 22), none⟩, ⟨some 24, .ld false 1 false (.t 23), none⟩, ⟨some 25, .call 76 [(.t 24)], none⟩, ⟨some 26, .fa 2 (.t 5), none⟩, ⟨some 27, .fa 1 (.t 26), none⟩, ⟨some 28, .ld false 1 false (.t 27), none⟩, ⟨some 29, .bld [.slice .nil [], .int .i64 0] [(0, 1, (.t 25)), (1, 1, (.t 28))], none⟩, ⟨some 30, .bld [.int .i64 0, .int .i64 0, .slice .nil [], .int .i64 0] [(0, 1, (.t 19)), (1, 1, (.t 21)), (2, 2, (.t 29))], none⟩],
     .seq ⟨some 31, .ia 4 (.t 16) (.t 17), none⟩,
     .seq ⟨none, .st 4 (.t 31) (.t 30), none⟩])))
  (.reg [
    .seq ⟨some 32, .bin .add 0 (.t 11) (.c (.int .i64 1)), none⟩,
    .seq ⟨some 11, .mv false (.t 32), none⟩])))))))
 (.seq (.reg [
   .seq ⟨some 33, .mv true (.t 3), none⟩,
   .seq ⟨some 2, .mv true (.t 33), none⟩])
 (.ret))))
def a78 : AFunc := ⟨1, 34, [.t 2], c78, false⟩
/-- headland/lang.CopyRef -/
def c79 : ACode :=
 .seq (.reg [
   .seq ⟨some 1, .box 2 (.t 0), none⟩,
   .seq ⟨some 2, .al [.int .i64 0, .slice .nil []], none⟩])
 (.seq (.reg [
   .seq ⟨some 6, .fa 0 (.t 1), none⟩,
   .seq ⟨some 7, .ld false 1 false (.t 6), none⟩,
   .seq ⟨some 8, .bld [.int .i64 0, .slice .nil []] [(0, 1, (.t 7))], none⟩,
   .seq ⟨some 3, .al [.int .i64 0, .slice .nil []], none⟩,
   .seq ⟨none, .st 2 (.t 3) (.t 8), none⟩])
 (.seq (.seq (.reg [
   .seq ⟨some 9, .fa 1 (.t 1), none⟩,
   .seq ⟨some 10, .ld false 1 false (.t 9), none⟩,
   .seq ⟨some 11, .len false (.t 10), none⟩,
   .seq ⟨some 12, .mv false (.c (.int .i64 0)), none⟩])
 (.blk 0
  (.loop (.seq (.reg [
    .seq ⟨some 13, .bin .lss 0 (.t 12) (.t 11), none⟩])
  (.seq (.cond (.t 13)
   (.nop)
   (.exit 0))
  (.seq (.blk 1
   (.seq (.reg [
     .seq ⟨some 14, .ia 2 (.t 10) (.t 12), none⟩,
     .seq ⟨some 15, .ld false 2 true (.t 14), none⟩,
     .seq ⟨some 5, .al [.slice .nil [], .int .i64 0], none⟩,
     .seq ⟨none, .st 2 (.t 5) (.t 15), none⟩])
   (.reg [
     .free [⟨some 16, .fa 1 (.t 3), none⟩, ⟨some 17, .ld true 1 false (.t 16), none⟩, ⟨some 18, .ld false 2 true (.t 5), none⟩, ⟨some 19, .call 88 [(.t 18)], none⟩, ⟨some 20, .row 46 2 [(.t 19)], none⟩],
     .seq ⟨some 21, .app 46 2 32 (.t 17) (.t 20), none⟩,
     .seq ⟨some 22, .fa 1 (.t 3), none⟩,
     .seq ⟨none, .st 1 (.t 22) (.t 21), none⟩])))
  (.reg [
    .seq ⟨some 23, .bin .add 0 (.t 12) (.c (.int .i64 1)), none⟩,
    .seq ⟨some 12, .mv false (.t 23), none⟩])))))))
 (.seq (.reg [
   .seq ⟨some 24, .ld false 2 true (.t 3), none⟩,
   .seq ⟨none, .st 2 (.t 2) (.t 24), none⟩])
 (.ret))))
def a79 : AFunc := ⟨1, 25, [.c 2 2 true], c79, false⟩
/-- headland/lang.CopyExpr -/
def c80 : ACode :=
 .seq (.reg [
   .seq ⟨some 1, .box 7 (.t 0), none⟩,
   .seq ⟨some 2, .al [.int .i64 0, .int .i64 0, .slice .nil [], .int .i64 0, .int .i64 0, .slice .nil [], .slice .nil []], none⟩])
 (.seq (.reg [
   .free [⟨some 6, .fa 0 (.t 1), none⟩, ⟨some 7, .ld false 1 false (.t 6), none⟩, ⟨some 8, .fa 1 (.t 1), none⟩, ⟨some 9, .ld false 1 false (.t 8), none⟩, ⟨some 10, .fa 2 (.t 1), none⟩, ⟨some 11, .ld false 2 true (.t 10), none⟩, ⟨some 12, .call 88 [(.t 11)], none⟩, ⟨some 13, .fa 4 (.t 1), none⟩, ⟨some 14, .ld false 2 true (.t 13), none⟩, ⟨some 15, .call 79 [(.t 14)], none⟩, ⟨some 16, .bld [.int .i64 0, .int .i64 0, .slice .nil [], .int .i64 0, .int .i64 0, .slice .nil [], .slice .nil []] [(0, 1, (.t 7)), (1, 1, (.t 9)), (2, 2, (.t 12)), (4, 2, (.t 15))], none⟩, ⟨some 3, .al [.int .i64 0, .int .i64 0, .slice .nil [], .int .i64 0, .int .i64 0, .slice .nil [], .slice .nil []], none⟩],
   .seq ⟨none, .st 7 (.t 3) (.t 16), none⟩])
 (.seq (.seq (.reg [
   .seq ⟨some 17, .fa 6 (.t 1), none⟩,
   .seq ⟨some 18, .ld false 1 false (.t 17), none⟩,
   .seq ⟨some 19, .len false (.t 18), none⟩,
   .seq ⟨some 20, .mv false (.c (.int .i64 0)), none⟩])
 (.blk 0
  (.loop (.seq (.reg [
    .seq ⟨some 21, .bin .lss 0 (.t 20) (.t 19), none⟩])
  (.seq (.cond (.t 21)
   (.nop)
   (.exit 0))
  (.seq (.blk 1
   (.seq (.reg [
     .seq ⟨some 22, .ia 7 (.t 18) (.t 20), none⟩,
     .seq ⟨some 23, .ld false 7 true (.t 22), none⟩,
     .seq ⟨some 5, .al [.int .i64 0, .int .i64 0, .slice .nil [], .int .i64 0, .int .i64 0, .slice .nil [], .slice .nil []], none⟩,
     .seq ⟨none, .st 7 (.t 5) (.t 23), none⟩])
   (.reg [
     .free [⟨some 24, .fa 6 (.t 3), none⟩, ⟨some 25, .ld true 1 false (.t 24), none⟩, ⟨some 26, .ld false 7 true (.t 5), none⟩, ⟨some 27, .call 80 [(.t 26)], none⟩, ⟨some 28, .row 49 7 [(.t 27)], none⟩],
     .seq ⟨some 29, .app 49 7 104 (.t 25) (.t 28), none⟩,
     .seq ⟨some 30, .fa 6 (.t 3), none⟩,
     .seq ⟨none, .st 1 (.t 30) (.t 29), none⟩])))
  (.reg [
    .seq ⟨some 31, .bin .add 0 (.t 20) (.c (.int .i64 1)), none⟩,
    .seq ⟨some 20, .mv false (.t 31), none⟩])))))))
 (.seq (.reg [
   .seq ⟨some 32, .ld false 7 true (.t 3), none⟩,
   .seq ⟨none, .st 7 (.t 2) (.t 32), none⟩])
 (.ret))))
def a80 : AFunc := ⟨1, 33, [.c 2 7 true], c80, false⟩
/-- slices.Equal[[]int,int] -/
def c81 : ACode :=
 .seq (.reg [
   .seq ⟨some 4, .mv true (.c (.bool false)), none⟩])
 (.seq (.seq (.reg [
   .seq ⟨some 6, .mv false (.t 0), none⟩,
   .seq ⟨some 7, .len false (.t 6), none⟩,
   .seq ⟨some 8, .mv false (.t 1), none⟩,
   .seq ⟨some 9, .len false (.t 8), none⟩,
   .seq ⟨some 10, .bin .neq 0 (.t 7) (.t 9), none⟩])
 (.cond (.t 10)
  (.seq (.reg [
    .seq ⟨some 4, .mv true (.c (.bool false)), none⟩])
  (.ret))
  (.nop)))
 (.seq (.seq (.reg [
   .seq ⟨some 11, .mv false (.t 0), none⟩,
   .seq ⟨some 12, .len false (.t 11), none⟩,
   .seq ⟨some 13, .mv false (.c (.int .i64 0)), none⟩])
 (.blk 0
  (.loop (.seq (.reg [
    .seq ⟨some 14, .bin .lss 0 (.t 13) (.t 12), none⟩])
  (.seq (.cond (.t 14)
   (.nop)
   (.exit 0))
  (.seq (.blk 1
   (.seq (.reg [
     .seq ⟨some 15, .mv false (.t 13), none⟩,
     .seq ⟨some 5, .mv true (.t 15), none⟩])
   (.seq (.reg [
     .free [⟨some 16, .mv false (.t 0), none⟩, ⟨some 17, .mv false (.t 5), none⟩, ⟨some 18, .ia 1 (.t 16) (.t 17), none⟩, ⟨some 19, .ld false 1 false (.t 18), none⟩, ⟨some 20, .mv false (.t 1), none⟩, ⟨some 21, .mv false (.t 5), none⟩, ⟨some 22, .ia 1 (.t 20) (.t 21), none⟩, ⟨some 23, .ld false 1 false (.t 22), none⟩],
     .seq ⟨some 24, .bin .neq 0 (.t 19) (.t 23), none⟩])
   (.cond (.t 24)
    (.seq (.reg [
      .seq ⟨some 4, .mv true (.c (.bool false)), none⟩])
    (.ret))
    (.nop)))))
  (.reg [
    .seq ⟨some 25, .bin .add 0 (.t 13) (.c (.int .i64 1)), none⟩,
    .seq ⟨some 13, .mv false (.t 25), none⟩])))))))
 (.seq (.reg [
   .seq ⟨some 4, .mv true (.c (.bool true)), none⟩])
 (.ret))))
def a81 : AFunc := ⟨2, 26, [.t 4], c81, false⟩
/-- headland/headlandref02.Same -/
def c82 : ACode :=
 .seq (.reg [
   .seq ⟨some 2, .box 2 (.t 0), none⟩,
   .seq ⟨some 3, .box 2 (.t 1), none⟩,
   .seq ⟨some 4, .mv true (.c (.bool false)), none⟩])
 (.seq (.seq (.reg [
   .seq ⟨some 6, .fa 0 (.t 2), none⟩,
   .seq ⟨some 7, .ld false 1 false (.t 6), none⟩,
   .seq ⟨some 8, .len false (.t 7), none⟩,
   .seq ⟨some 9, .fa 0 (.t 3), none⟩,
   .seq ⟨some 10, .ld false 1 false (.t 9), none⟩,
   .seq ⟨some 11, .len false (.t 10), none⟩,
   .seq ⟨some 12, .bin .neq 0 (.t 8) (.t 11), none⟩,
   .seq ⟨some 13, .mv false (.t 12), none⟩,
   .seq ⟨some 14, .fa 1 (.t 2), some (13, false)⟩,
   .seq ⟨some 15, .ld false 1 false (.t 14), some (13, false)⟩,
   .seq ⟨some 16, .fa 1 (.t 3), some (13, false)⟩,
   .seq ⟨some 17, .ld false 1 false (.t 16), some (13, false)⟩,
   .seq ⟨some 18, .bin .neq 0 (.t 15) (.t 17), some (13, false)⟩,
   .seq ⟨some 19, .pick (.t 13) (.c (.bool true)) (.t 18), none⟩])
 (.cond (.t 19)
  (.seq (.reg [
    .seq ⟨some 4, .mv true (.c (.bool false)), none⟩])
  (.ret))
  (.nop)))
 (.seq (.seq (.reg [
   .seq ⟨some 20, .fa 0 (.t 2), none⟩,
   .seq ⟨some 21, .ld false 1 false (.t 20), none⟩,
   .seq ⟨some 22, .len false (.t 21), none⟩,
   .seq ⟨some 23, .mv false (.c (.int .i64 0)), none⟩])
 (.blk 0
  (.loop (.seq (.reg [
    .seq ⟨some 24, .bin .lss 0 (.t 23) (.t 22), none⟩])
  (.seq (.cond (.t 24)
   (.nop)
   (.exit 0))
  (.seq (.blk 1
   (.seq (.reg [
     .seq ⟨some 25, .mv false (.t 23), none⟩,
     .seq ⟨some 5, .mv true (.t 25), none⟩])
   (.seq (.reg [
     .free [⟨some 26, .fa 0 (.t 2), none⟩, ⟨some 27, .ld false 1 false (.t 26), none⟩, ⟨some 28, .mv false (.t 5), none⟩, ⟨some 29, .ia 1 (.t 27) (.t 28), none⟩, ⟨some 30, .ld false 1 false (.t 29), none⟩, ⟨some 31, .fa 0 (.t 3), none⟩, ⟨some 32, .ld false 1 false (.t 31), none⟩, ⟨some 33, .mv false (.t 5), none⟩, ⟨some 34, .ia 1 (.t 32) (.t 33), none⟩, ⟨some 35, .ld false 1 false (.t 34), none⟩],
     .seq ⟨some 36, .bin .neq 0 (.t 30) (.t 35), none⟩])
   (.cond (.t 36)
    (.seq (.reg [
      .seq ⟨some 4, .mv true (.c (.bool false)), none⟩])
    (.ret))
    (.nop)))))
  (.reg [
    .seq ⟨some 37, .bin .add 0 (.t 23) (.c (.int .i64 1)), none⟩,
    .seq ⟨some 23, .mv false (.t 37), none⟩])))))))
 (.seq (.reg [
   .seq ⟨some 4, .mv true (.c (.bool true)), none⟩])
 (.ret))))
def a82 : AFunc := ⟨2, 38, [.t 4], c82, false⟩
/-- headland/headlandref04.SamePiece -/
def c83 : ACode :=
 .seq (.reg [
   .seq ⟨some 4, .mv true (.c (.bool false)), none⟩])
 (.seq (.seq (.reg [
   .seq ⟨some 6, .mv false (.t 0), none⟩,
   .seq ⟨some 7, .len false (.t 6), none⟩,
   .seq ⟨some 8, .mv false (.t 1), none⟩,
   .seq ⟨some 9, .len false (.t 8), none⟩,
   .seq ⟨some 10, .bin .neq 0 (.t 7) (.t 9), none⟩])
 (.cond (.t 10)
  (.seq (.reg [
    .seq ⟨some 4, .mv true (.c (.bool false)), none⟩])
  (.ret))
  (.nop)))
 (.seq (.seq (.reg [
   .seq ⟨some 11, .mv false (.t 0), none⟩,
   .seq ⟨some 12, .len false (.t 11), none⟩,
   .seq ⟨some 13, .mv false (.c (.int .i64 0)), none⟩])
 (.blk 0
  (.loop (.seq (.reg [
    .seq ⟨some 14, .bin .lss 0 (.t 13) (.t 12), none⟩])
  (.seq (.cond (.t 14)
   (.nop)
   (.exit 0))
  (.seq (.blk 1
   (.seq (.reg [
     .seq ⟨some 15, .mv false (.t 13), none⟩,
     .seq ⟨some 5, .mv true (.t 15), none⟩])
   (.seq (.reg [
     .free [⟨some 16, .mv false (.t 0), none⟩, ⟨some 17, .mv false (.t 5), none⟩, ⟨some 18, .ia 4 (.t 16) (.t 17), none⟩, ⟨some 19, .ld false 4 true (.t 18), none⟩, ⟨some 20, .mv false (.t 1), none⟩, ⟨some 21, .mv false (.t 5), none⟩, ⟨some 22, .ia 4 (.t 20) (.t 21), none⟩, ⟨some 23, .ld false 4 true (.t 22), none⟩],
     .seq ⟨some 24, .call 104 [(.t 19), (.t 23)], none⟩,
     .seq ⟨some 25, .un .not (.t 24), none⟩])
   (.cond (.t 25)
    (.seq (.reg [
      .seq ⟨some 4, .mv true (.c (.bool false)), none⟩])
    (.ret))
    (.nop)))))
  (.reg [
    .seq ⟨some 26, .bin .add 0 (.t 13) (.c (.int .i64 1)), none⟩,
    .seq ⟨some 13, .mv false (.t 26), none⟩])))))))
 (.seq (.reg [
   .seq ⟨some 4, .mv true (.c (.bool true)), none⟩])
 (.ret))))
def a83 : AFunc := ⟨2, 27, [.t 4], c83, false⟩
/-- headland/lang.CopyLin -/
def c88 : ACode :=
 .seq (.reg [
   .seq ⟨some 1, .box 2 (.t 0), none⟩,
   .seq ⟨some 2, .al [.slice .nil [], .int .i64 0], none⟩])
 (.seq (.reg [
   .free [⟨some 3, .fa 0 (.t 1), none⟩, ⟨some 4, .ld false 1 false (.t 3), none⟩, ⟨some 5, .call 76 [(.t 4)], none⟩, ⟨some 6, .fa 1 (.t 1), none⟩, ⟨some 7, .ld false 1 false (.t 6), none⟩],
   .seq ⟨some 8, .bld [.slice .nil [], .int .i64 0] [(0, 1, (.t 5)), (1, 1, (.t 7))], none⟩,
   .seq ⟨none, .st 2 (.t 2) (.t 8), none⟩])
 (.ret))
def a88 : AFunc := ⟨1, 9, [.c 2 2 true], c88, false⟩
/-- headland/settext.Name -/
def c96 : ACode :=
 .seq (.reg [
   .seq ⟨some 2, .mv true (.c (.bool false)), none⟩])
 (.seq (.seq (.reg [
   .seq ⟨some 4, .mv false (.t 0), none⟩,
   .seq ⟨some 5, .bin .eql 0 (.t 4) (.c (.str ⟨#[]⟩)), none⟩,
   .seq ⟨some 6, .mv false (.t 5), none⟩,
   .seq ⟨some 7, .mv false (.t 0), some (6, false)⟩,
   .seq ⟨some 8, .len true (.t 7), some (6, false)⟩,
   .seq ⟨some 9, .bin .gtr 0 (.t 8) (.c (.int .i64 12)), some (6, false)⟩,
   .seq ⟨some 10, .pick (.t 6) (.c (.bool true)) (.t 9), none⟩,
   .seq ⟨some 11, .mv false (.t 10), none⟩,
   .seq ⟨some 12, .mv false (.t 0), some (11, false)⟩,
   .seq ⟨some 13, .sx (.t 12) (.c (.int .i64 0)), some (11, false)⟩,
   .seq ⟨some 14, .call 126 [(.t 13)], some (11, false)⟩,
   .seq ⟨some 15, .un .not (.t 14), some (11, false)⟩,
   .seq ⟨some 16, .pick (.t 11) (.c (.bool true)) (.t 15), none⟩])
 (.cond (.t 16)
  (.seq (.reg [
    .seq ⟨some 2, .mv true (.c (.bool false)), none⟩])
  (.ret))
  (.nop)))
 (.seq (.seq (.reg [
   .seq ⟨some 17, .mv false (.t 0), none⟩,
   .seq ⟨some 18, .len true (.t 17), none⟩,
   .seq ⟨some 19, .mv false (.c (.int .i64 0)), none⟩])
 (.blk 0
  (.loop (.seq (.reg [
    .seq ⟨some 20, .bin .lss 0 (.t 19) (.t 18), none⟩])
  (.seq (.cond (.t 20)
   (.nop)
   (.exit 0))
  (.seq (.blk 1
   (.seq (.reg [
     .seq ⟨some 21, .mv false (.t 19), none⟩,
     .seq ⟨some 3, .mv true (.t 21), none⟩])
   (.seq (.reg [
     .seq ⟨some 22, .mv false (.t 0), none⟩,
     .seq ⟨some 23, .mv false (.t 3), none⟩,
     .seq ⟨some 24, .sx (.t 22) (.t 23), none⟩,
     .seq ⟨some 25, .call 126 [(.t 24)], none⟩,
     .seq ⟨some 26, .un .not (.t 25), none⟩,
     .seq ⟨some 27, .mv false (.t 26), none⟩,
     .seq ⟨some 28, .mv false (.t 0), some (27, true)⟩,
     .seq ⟨some 29, .mv false (.t 3), some (27, true)⟩,
     .seq ⟨some 30, .sx (.t 28) (.t 29), some (27, true)⟩,
     .seq ⟨some 31, .call 127 [(.t 30)], some (27, true)⟩,
     .seq ⟨some 32, .un .not (.t 31), some (27, true)⟩,
     .seq ⟨some 33, .pick (.t 27) (.t 32) (.c (.bool false)), none⟩])
   (.cond (.t 33)
    (.seq (.reg [
      .seq ⟨some 2, .mv true (.c (.bool false)), none⟩])
    (.ret))
    (.nop)))))
  (.reg [
    .seq ⟨some 34, .bin .add 0 (.t 19) (.c (.int .i64 1)), none⟩,
    .seq ⟨some 19, .mv false (.t 34), none⟩])))))))
 (.seq (.reg [
   .seq ⟨some 35, .mv false (.t 0), none⟩,
   .seq ⟨some 36, .bin .add 0 (.c (.str ⟨#[32]⟩)) (.t 35), none⟩,
   .seq ⟨some 37, .bin .add 0 (.t 36) (.c (.str ⟨#[32]⟩)), none⟩,
   .seq ⟨some 38, .call 128 [(.c (.str ⟨#[32, 97, 110, 100, 32, 111, 114, 32, 116, 114, 117, 101, 32, 102, 97, 108, 115, 101, 32, 102, 111, 114, 32, 116, 111, 32, 115, 116, 101, 112, 32, 105, 102, 32, 101, 108, 115, 101, 32, 109, 105, 110, 32, 109, 97, 120, 32, 102, 108, 111, 111, 114, 32, 99, 101, 105, 108, 32, 97, 114, 114, 97, 121, 32, 112, 97, 114, 97, 109, 32, 112, 97, 114, 97, 108, 108, 101, 108, 32, 118, 101, 99, 116, 111, 114, 32]⟩)), (.t 37)], none⟩,
   .seq ⟨some 39, .un .not (.t 38), none⟩,
   .seq ⟨some 2, .mv true (.t 39), none⟩])
 (.ret))))
def a96 : AFunc := ⟨1, 40, [.t 2], c96, false⟩
/-- slices.Contains[[]string,string] -/
def c97 : ACode :=
 .seq (.reg [
   .seq ⟨some 4, .mv true (.c (.bool false)), none⟩])
 (.seq (.reg [
   .seq ⟨some 5, .mv false (.t 0), none⟩,
   .seq ⟨some 6, .mv false (.t 1), none⟩,
   .seq ⟨some 7, .call 129 [(.t 5), (.t 6)], none⟩,
   .seq ⟨some 8, .bin .geq 0 (.t 7) (.c (.int .i64 0)), none⟩,
   .seq ⟨some 4, .mv true (.t 8), none⟩])
 (.ret))
def a97 : AFunc := ⟨2, 9, [.t 4], c97, false⟩
/-- headland/lin.Valid -/
def c98 : ACode :=
 .seq (.reg [
   .seq ⟨some 1, .box 2 (.t 0), none⟩,
   .seq ⟨some 2, .mv true (.c (.bool false)), none⟩])
 (.seq (.seq (.reg [
   .seq ⟨some 5, .fa 0 (.t 1), none⟩,
   .seq ⟨some 6, .ld false 1 false (.t 5), none⟩,
   .seq ⟨some 7, .len false (.t 6), none⟩,
   .seq ⟨some 8, .mv false (.c (.int .i64 0)), none⟩])
 (.blk 0
  (.loop (.seq (.reg [
    .seq ⟨some 9, .bin .lss 0 (.t 8) (.t 7), none⟩])
  (.seq (.cond (.t 9)
   (.nop)
   (.exit 0))
  (.seq (.blk 1
   (.seq (.reg [
     .seq ⟨some 10, .ia 1 (.t 6) (.t 8), none⟩,
     .seq ⟨some 11, .ld false 1 false (.t 10), none⟩,
     .seq ⟨some 4, .mv true (.t 11), none⟩])
   (.seq (.reg [
     .seq ⟨some 12, .mv false (.t 4), none⟩,
     .seq ⟨some 13, .call 130 [(.t 12)], none⟩,
     .seq ⟨some 14, .un .not (.t 13), none⟩])
   (.cond (.t 14)
    (.seq (.reg [
      .seq ⟨some 2, .mv true (.c (.bool false)), none⟩])
    (.ret))
    (.nop)))))
  (.reg [
    .seq ⟨some 15, .bin .add 0 (.t 8) (.c (.int .i64 1)), none⟩,
    .seq ⟨some 8, .mv false (.t 15), none⟩])))))))
 (.seq (.reg [
   .seq ⟨some 16, .fa 0 (.t 1), none⟩,
   .seq ⟨some 17, .ld false 1 false (.t 16), none⟩,
   .seq ⟨some 18, .len false (.t 17), none⟩,
   .seq ⟨some 19, .bin .leq 0 (.t 18) (.c (.int .i64 12)), none⟩,
   .seq ⟨some 20, .mv false (.t 19), none⟩,
   .seq ⟨some 21, .fa 1 (.t 1), some (20, true)⟩,
   .seq ⟨some 22, .ld false 1 false (.t 21), some (20, true)⟩,
   .seq ⟨some 23, .call 130 [(.t 22)], some (20, true)⟩,
   .seq ⟨some 24, .pick (.t 20) (.t 23) (.c (.bool false)), none⟩,
   .seq ⟨some 2, .mv true (.t 24), none⟩])
 (.ret)))
def a98 : AFunc := ⟨1, 25, [.t 2], c98, false⟩
/-- headland/headlandref02.Valid -/
def c99 : ACode :=
 .seq (.reg [
   .seq ⟨some 1, .box 2 (.t 0), none⟩,
   .seq ⟨some 2, .mv true (.c (.bool false)), none⟩])
 (.seq (.seq (.reg [
   .seq ⟨some 5, .fa 0 (.t 1), none⟩,
   .seq ⟨some 6, .ld false 1 false (.t 5), none⟩,
   .seq ⟨some 7, .len false (.t 6), none⟩,
   .seq ⟨some 8, .mv false (.c (.int .i64 0)), none⟩])
 (.blk 0
  (.loop (.seq (.reg [
    .seq ⟨some 9, .bin .lss 0 (.t 8) (.t 7), none⟩])
  (.seq (.cond (.t 9)
   (.nop)
   (.exit 0))
  (.seq (.blk 1
   (.seq (.reg [
     .seq ⟨some 10, .ia 1 (.t 6) (.t 8), none⟩,
     .seq ⟨some 11, .ld false 1 false (.t 10), none⟩,
     .seq ⟨some 4, .mv true (.t 11), none⟩])
   (.seq (.reg [
     .seq ⟨some 12, .mv false (.t 4), none⟩,
     .seq ⟨some 13, .call 131 [(.t 12)], none⟩,
     .seq ⟨some 14, .un .not (.t 13), none⟩])
   (.cond (.t 14)
    (.seq (.reg [
      .seq ⟨some 2, .mv true (.c (.bool false)), none⟩])
    (.ret))
    (.nop)))))
  (.reg [
    .seq ⟨some 15, .bin .add 0 (.t 8) (.c (.int .i64 1)), none⟩,
    .seq ⟨some 8, .mv false (.t 15), none⟩])))))))
 (.seq (.reg [
   .seq ⟨some 16, .fa 0 (.t 1), none⟩,
   .seq ⟨some 17, .ld false 1 false (.t 16), none⟩,
   .seq ⟨some 18, .len false (.t 17), none⟩,
   .seq ⟨some 19, .bin .leq 0 (.t 18) (.c (.int .i64 12)), none⟩,
   .seq ⟨some 20, .mv false (.t 19), none⟩,
   .seq ⟨some 21, .fa 1 (.t 1), some (20, true)⟩,
   .seq ⟨some 22, .ld false 1 false (.t 21), some (20, true)⟩,
   .seq ⟨some 23, .call 131 [(.t 22)], some (20, true)⟩,
   .seq ⟨some 24, .pick (.t 20) (.t 23) (.c (.bool false)), none⟩,
   .seq ⟨some 2, .mv true (.t 24), none⟩])
 (.ret)))
def a99 : AFunc := ⟨1, 25, [.t 2], c99, false⟩
/-- headland/headlandref08.letter -/
def c100 : ACode :=
 .seq (.reg [
   .seq ⟨some 2, .mv true (.c (.bool false)), none⟩])
 (.seq (.reg [
   .seq ⟨some 3, .mv false (.t 0), none⟩,
   .seq ⟨some 4, .bin .geq 0 (.t 3) (.c (.int .u8 97)), none⟩,
   .seq ⟨some 5, .mv false (.t 4), none⟩,
   .seq ⟨some 6, .mv false (.t 0), some (5, true)⟩,
   .seq ⟨some 7, .bin .leq 0 (.t 6) (.c (.int .u8 122)), some (5, true)⟩,
   .seq ⟨some 8, .pick (.t 5) (.t 7) (.c (.bool false)), none⟩,
   .seq ⟨some 9, .mv false (.t 8), none⟩,
   .seq ⟨some 10, .mv false (.t 0), some (9, false)⟩,
   .seq ⟨some 11, .bin .geq 0 (.t 10) (.c (.int .u8 65)), some (9, false)⟩,
   .seq ⟨some 12, .mv false (.t 11), some (9, false)⟩,
   .seq ⟨some 13, .mv false (.t 0), some (12, true)⟩,
   .seq ⟨some 14, .bin .leq 0 (.t 13) (.c (.int .u8 90)), some (12, true)⟩,
   .seq ⟨some 15, .pick (.t 12) (.t 14) (.c (.bool false)), some (9, false)⟩,
   .seq ⟨some 16, .pick (.t 9) (.c (.bool true)) (.t 15), none⟩,
   .seq ⟨some 2, .mv true (.t 16), none⟩])
 (.ret))
def a100 : AFunc := ⟨1, 17, [.t 2], c100, false⟩
/-- headland/headlandref08.digit -/
def c101 : ACode :=
 .seq (.reg [
   .seq ⟨some 2, .mv true (.c (.bool false)), none⟩])
 (.seq (.reg [
   .seq ⟨some 3, .mv false (.t 0), none⟩,
   .seq ⟨some 4, .bin .geq 0 (.t 3) (.c (.int .u8 48)), none⟩,
   .seq ⟨some 5, .mv false (.t 4), none⟩,
   .seq ⟨some 6, .mv false (.t 0), some (5, true)⟩,
   .seq ⟨some 7, .bin .leq 0 (.t 6) (.c (.int .u8 57)), some (5, true)⟩,
   .seq ⟨some 8, .pick (.t 5) (.t 7) (.c (.bool false)), none⟩,
   .seq ⟨some 2, .mv true (.t 8), none⟩])
 (.ret))
def a101 : AFunc := ⟨1, 9, [.t 2], c101, false⟩
/-- headland/headlandref08.words -/
def c102 : ACode :=
 .seq (.reg [
   .seq ⟨some 0, .mv true (.c (.slice .nil [])), none⟩])
 (.seq (.reg [
   .seq ⟨some 1, .row 9 1 [(.c (.str ⟨#[97, 110, 100]⟩)), (.c (.str ⟨#[111, 114]⟩)), (.c (.str ⟨#[116, 114, 117, 101]⟩)), (.c (.str ⟨#[102, 97, 108, 115, 101]⟩)), (.c (.str ⟨#[102, 111, 114]⟩)), (.c (.str ⟨#[116, 111]⟩)), (.c (.str ⟨#[115, 116, 101, 112]⟩)), (.c (.str ⟨#[105, 102]⟩)), (.c (.str ⟨#[101, 108, 115, 101]⟩)), (.c (.str ⟨#[109, 105, 110]⟩)), (.c (.str ⟨#[109, 97, 120]⟩)), (.c (.str ⟨#[102, 108, 111, 111, 114]⟩)), (.c (.str ⟨#[99, 101, 105, 108]⟩)), (.c (.str ⟨#[97, 114, 114, 97, 121]⟩)), (.c (.str ⟨#[112, 97, 114, 97, 109]⟩)), (.c (.str ⟨#[112, 97, 114, 97, 108, 108, 101, 108]⟩)), (.c (.str ⟨#[118, 101, 99, 116, 111, 114]⟩))], none⟩,
   .seq ⟨some 0, .mv true (.t 1), none⟩])
 (.ret))
def a102 : AFunc := ⟨0, 2, [.t 0], c102, false⟩
/-- headland/headlandref03.Same -/
def c104 : ACode :=
 .seq (.reg [
   .seq ⟨some 2, .box 4 (.t 0), none⟩,
   .seq ⟨some 3, .box 4 (.t 1), none⟩,
   .seq ⟨some 4, .mv true (.c (.bool false)), none⟩])
 (.seq (.reg [
   .seq ⟨some 5, .fa 0 (.t 2), none⟩,
   .seq ⟨some 6, .ld false 1 false (.t 5), none⟩,
   .seq ⟨some 7, .fa 0 (.t 3), none⟩,
   .seq ⟨some 8, .ld false 1 false (.t 7), none⟩,
   .seq ⟨some 9, .bin .eql 0 (.t 6) (.t 8), none⟩,
   .seq ⟨some 10, .mv false (.t 9), none⟩,
   .seq ⟨some 11, .fa 1 (.t 2), some (10, true)⟩,
   .seq ⟨some 12, .ld false 1 false (.t 11), some (10, true)⟩,
   .seq ⟨some 13, .fa 1 (.t 3), some (10, true)⟩,
   .seq ⟨some 14, .ld false 1 false (.t 13), some (10, true)⟩,
   .seq ⟨some 15, .bin .eql 0 (.t 12) (.t 14), some (10, true)⟩,
   .seq ⟨some 16, .pick (.t 10) (.t 15) (.c (.bool false)), none⟩,
   .seq ⟨some 17, .mv false (.t 16), none⟩,
   .seq ⟨some 18, .fa 2 (.t 2), some (17, true)⟩,
   .seq ⟨some 19, .ld false 2 true (.t 18), some (17, true)⟩,
   .seq ⟨some 20, .fa 2 (.t 3), some (17, true)⟩,
   .seq ⟨some 21, .ld false 2 true (.t 20), some (17, true)⟩,
   .seq ⟨some 22, .call 82 [(.t 19), (.t 21)], some (17, true)⟩,
   .seq ⟨some 23, .pick (.t 17) (.t 22) (.c (.bool false)), none⟩,
   .seq ⟨some 4, .mv true (.t 23), none⟩])
 (.ret))
def a104 : AFunc := ⟨2, 24, [.t 4], c104, false⟩
/-- headland/settext.letter -/
def c126 : ACode :=
 .seq (.reg [
   .seq ⟨some 2, .mv true (.c (.bool false)), none⟩])
 (.seq (.reg [
   .seq ⟨some 3, .mv false (.t 0), none⟩,
   .seq ⟨some 4, .bin .geq 0 (.t 3) (.c (.int .u8 97)), none⟩,
   .seq ⟨some 5, .mv false (.t 4), none⟩,
   .seq ⟨some 6, .mv false (.t 0), some (5, true)⟩,
   .seq ⟨some 7, .bin .leq 0 (.t 6) (.c (.int .u8 122)), some (5, true)⟩,
   .seq ⟨some 8, .pick (.t 5) (.t 7) (.c (.bool false)), none⟩,
   .seq ⟨some 9, .mv false (.t 8), none⟩,
   .seq ⟨some 10, .mv false (.t 0), some (9, false)⟩,
   .seq ⟨some 11, .bin .geq 0 (.t 10) (.c (.int .u8 65)), some (9, false)⟩,
   .seq ⟨some 12, .mv false (.t 11), some (9, false)⟩,
   .seq ⟨some 13, .mv false (.t 0), some (12, true)⟩,
   .seq ⟨some 14, .bin .leq 0 (.t 13) (.c (.int .u8 90)), some (12, true)⟩,
   .seq ⟨some 15, .pick (.t 12) (.t 14) (.c (.bool false)), some (9, false)⟩,
   .seq ⟨some 16, .pick (.t 9) (.c (.bool true)) (.t 15), none⟩,
   .seq ⟨some 2, .mv true (.t 16), none⟩])
 (.ret))
def a126 : AFunc := ⟨1, 17, [.t 2], c126, false⟩
/-- headland/settext.digit -/
def c127 : ACode :=
 .seq (.reg [
   .seq ⟨some 2, .mv true (.c (.bool false)), none⟩])
 (.seq (.reg [
   .seq ⟨some 3, .mv false (.t 0), none⟩,
   .seq ⟨some 4, .bin .geq 0 (.t 3) (.c (.int .u8 48)), none⟩,
   .seq ⟨some 5, .mv false (.t 4), none⟩,
   .seq ⟨some 6, .mv false (.t 0), some (5, true)⟩,
   .seq ⟨some 7, .bin .leq 0 (.t 6) (.c (.int .u8 57)), some (5, true)⟩,
   .seq ⟨some 8, .pick (.t 5) (.t 7) (.c (.bool false)), none⟩,
   .seq ⟨some 2, .mv true (.t 8), none⟩])
 (.ret))
def a127 : AFunc := ⟨1, 9, [.t 2], c127, false⟩
/-- strings.Contains -/
def c128 : ACode :=
 .seq (.reg [
   .seq ⟨some 4, .mv true (.c (.bool false)), none⟩])
 (.seq (.reg [
   .seq ⟨some 5, .mv false (.t 0), none⟩,
   .seq ⟨some 6, .mv false (.t 1), none⟩,
   .seq ⟨some 7, .call 150 [(.t 5), (.t 6)], none⟩,
   .seq ⟨some 8, .bin .geq 0 (.t 7) (.c (.int .i64 0)), none⟩,
   .seq ⟨some 4, .mv true (.t 8), none⟩])
 (.ret))
def a128 : AFunc := ⟨2, 9, [.t 4], c128, false⟩
/-- slices.Index[[]string,string] -/
def c129 : ACode :=
 .seq (.reg [
   .seq ⟨some 4, .mv true (.c (.int .i64 0)), none⟩])
 (.seq (.seq (.reg [
   .seq ⟨some 6, .mv false (.t 0), none⟩,
   .seq ⟨some 7, .len false (.t 6), none⟩,
   .seq ⟨some 8, .mv false (.c (.int .i64 0)), none⟩])
 (.blk 0
  (.loop (.seq (.reg [
    .seq ⟨some 9, .bin .lss 0 (.t 8) (.t 7), none⟩])
  (.seq (.cond (.t 9)
   (.nop)
   (.exit 0))
  (.seq (.blk 1
   (.seq (.reg [
     .seq ⟨some 10, .mv false (.t 8), none⟩,
     .seq ⟨some 5, .mv true (.t 10), none⟩])
   (.seq (.reg [
     .seq ⟨some 11, .mv false (.t 1), none⟩,
     .seq ⟨some 12, .mv false (.t 0), none⟩,
     .seq ⟨some 13, .mv false (.t 5), none⟩,
     .seq ⟨some 14, .ia 1 (.t 12) (.t 13), none⟩,
     .seq ⟨some 15, .ld false 1 false (.t 14), none⟩,
     .seq ⟨some 16, .bin .eql 0 (.t 11) (.t 15), none⟩])
   (.cond (.t 16)
    (.seq (.reg [
      .seq ⟨some 17, .mv true (.t 5), none⟩,
      .seq ⟨some 4, .mv true (.t 17), none⟩])
    (.ret))
    (.nop)))))
  (.reg [
    .seq ⟨some 18, .bin .add 0 (.t 8) (.c (.int .i64 1)), none⟩,
    .seq ⟨some 8, .mv false (.t 18), none⟩])))))))
 (.seq (.reg [
   .seq ⟨some 4, .mv true (.c (.int .i64 (-1))), none⟩])
 (.ret)))
def a129 : AFunc := ⟨2, 19, [.t 4], c129, false⟩
/-- headland/num.Fits -/
def c130 : ACode :=
 .seq (.reg [
   .seq ⟨some 2, .mv true (.c (.bool false)), none⟩])
 (.seq (.reg [
   .seq ⟨some 3, .mv false (.t 0), none⟩,
   .seq ⟨some 4, .bin .geq 0 (.t 3) (.c (.int .i64 (-1048576))), none⟩,
   .seq ⟨some 5, .mv false (.t 4), none⟩,
   .seq ⟨some 6, .mv false (.t 0), some (5, true)⟩,
   .seq ⟨some 7, .bin .leq 0 (.t 6) (.c (.int .i64 1048576)), some (5, true)⟩,
   .seq ⟨some 8, .pick (.t 5) (.t 7) (.c (.bool false)), none⟩,
   .seq ⟨some 2, .mv true (.t 8), none⟩])
 (.ret))
def a130 : AFunc := ⟨1, 9, [.t 2], c130, false⟩
/-- headland/headlandref01.Fits -/
def c131 : ACode :=
 .seq (.reg [
   .seq ⟨some 2, .mv true (.c (.bool false)), none⟩])
 (.seq (.reg [
   .seq ⟨some 3, .mv false (.t 0), none⟩,
   .seq ⟨some 4, .bin .geq 0 (.t 3) (.c (.int .i64 (-1048576))), none⟩,
   .seq ⟨some 5, .mv false (.t 4), none⟩,
   .seq ⟨some 6, .mv false (.t 0), some (5, true)⟩,
   .seq ⟨some 7, .bin .leq 0 (.t 6) (.c (.int .i64 1048576)), some (5, true)⟩,
   .seq ⟨some 8, .pick (.t 5) (.t 7) (.c (.bool false)), none⟩,
   .seq ⟨some 2, .mv true (.t 8), none⟩])
 (.ret))
def a131 : AFunc := ⟨1, 9, [.t 2], c131, false⟩
/-- headland/headlandref10.zeroRef -/
def c132 : ACode :=
 .seq (.reg [
   .seq ⟨some 1, .box 2 (.t 0), none⟩,
   .seq ⟨some 2, .mv true (.c (.bool false)), none⟩])
 (.seq (.reg [
   .seq ⟨some 3, .fa 0 (.t 1), none⟩,
   .seq ⟨some 4, .ld false 1 false (.t 3), none⟩,
   .seq ⟨some 5, .bin .eql 0 (.t 4) (.c (.int .i64 0)), none⟩,
   .seq ⟨some 6, .mv false (.t 5), none⟩,
   .seq ⟨some 7, .fa 1 (.t 1), some (6, true)⟩,
   .seq ⟨some 8, .ld false 1 false (.t 7), some (6, true)⟩,
   .seq ⟨some 9, .len false (.t 8), some (6, true)⟩,
   .seq ⟨some 10, .bin .eql 0 (.t 9) (.c (.int .i64 0)), some (6, true)⟩,
   .seq ⟨some 11, .pick (.t 6) (.t 10) (.c (.bool false)), none⟩,
   .seq ⟨some 2, .mv true (.t 11), none⟩])
 (.ret))
def a132 : AFunc := ⟨1, 12, [.t 2], c132, false⟩
/-- headland/headlandref10.zeroExpr -/
def c133 : ACode :=
 .seq (.reg [
   .seq ⟨some 1, .box 7 (.t 0), none⟩,
   .seq ⟨some 2, .mv true (.c (.bool false)), none⟩])
 (.seq (.reg [
   .seq ⟨some 3, .fa 0 (.t 1), none⟩,
   .seq ⟨some 4, .ld false 1 false (.t 3), none⟩,
   .seq ⟨some 5, .bin .eql 0 (.t 4) (.c (.int .i64 0)), none⟩,
   .seq ⟨some 6, .mv false (.t 5), none⟩,
   .seq ⟨some 7, .fa 1 (.t 1), some (6, true)⟩,
   .seq ⟨some 8, .ld false 1 false (.t 7), some (6, true)⟩,
   .seq ⟨some 9, .bin .eql 0 (.t 8) (.c (.int .i64 0)), some (6, true)⟩,
   .seq ⟨some 10, .pick (.t 6) (.t 9) (.c (.bool false)), none⟩,
   .seq ⟨some 11, .mv false (.t 10), none⟩,
   .seq ⟨some 12, .fa 2 (.t 1), some (11, true)⟩,
   .seq ⟨some 13, .ld false 2 true (.t 12), some (11, true)⟩,
   .seq ⟨some 14, .call 151 [(.t 13)], some (11, true)⟩,
   .seq ⟨some 15, .pick (.t 11) (.t 14) (.c (.bool false)), none⟩,
   .seq ⟨some 16, .mv false (.t 15), none⟩,
   .seq ⟨some 17, .fa 4 (.t 1), some (16, true)⟩,
   .seq ⟨some 18, .ld false 2 true (.t 17), some (16, true)⟩,
   .seq ⟨some 19, .call 132 [(.t 18)], some (16, true)⟩,
   .seq ⟨some 20, .pick (.t 16) (.t 19) (.c (.bool false)), none⟩,
   .seq ⟨some 21, .mv false (.t 20), none⟩,
   .seq ⟨some 22, .fa 6 (.t 1), some (21, true)⟩,
   .seq ⟨some 23, .ld false 1 false (.t 22), some (21, true)⟩,
   .seq ⟨some 24, .len false (.t 23), some (21, true)⟩,
   .seq ⟨some 25, .bin .eql 0 (.t 24) (.c (.int .i64 0)), some (21, true)⟩,
   .seq ⟨some 26, .pick (.t 21) (.t 25) (.c (.bool false)), none⟩,
   .seq ⟨some 2, .mv true (.t 26), none⟩])
 (.ret))
def a133 : AFunc := ⟨1, 27, [.t 2], c133, false⟩
/-- headland/headlandref10.Bound -/
def c134 : ACode :=
 .seq (.reg [
   .seq ⟨some 2, .box 1 (.t 0), none⟩,
   .seq ⟨some 4, .mv true (.c (.bool false)), none⟩])
 (.seq (.seq (.reg [
   .seq ⟨some 9, .fa 0 (.t 2), none⟩,
   .seq ⟨some 10, .ld false 1 false (.t 9), none⟩,
   .seq ⟨some 11, .len false (.t 10), none⟩,
   .seq ⟨some 12, .bin .lss 0 (.t 11) (.c (.int .i64 1)), none⟩,
   .seq ⟨some 13, .mv false (.t 12), none⟩,
   .seq ⟨some 14, .fa 0 (.t 2), some (13, false)⟩,
   .seq ⟨some 15, .ld false 1 false (.t 14), some (13, false)⟩,
   .seq ⟨some 16, .len false (.t 15), some (13, false)⟩,
   .seq ⟨some 17, .bin .gtr 0 (.t 16) (.c (.int .i64 400)), some (13, false)⟩,
   .seq ⟨some 18, .pick (.t 13) (.c (.bool true)) (.t 17), none⟩])
 (.cond (.t 18)
  (.seq (.reg [
    .seq ⟨some 4, .mv true (.c (.bool false)), none⟩])
  (.ret))
  (.nop)))
 (.seq (.seq (.reg [
   .seq ⟨some 19, .fa 0 (.t 2), none⟩,
   .seq ⟨some 20, .ld false 1 false (.t 19), none⟩,
   .seq ⟨some 21, .len false (.t 20), none⟩,
   .seq ⟨some 22, .mv false (.c (.int .i64 0)), none⟩])
 (.blk 0
  (.loop (.seq (.reg [
    .seq ⟨some 23, .bin .lss 0 (.t 22) (.t 21), none⟩])
  (.seq (.cond (.t 23)
   (.nop)
   (.exit 0))
  (.seq (.blk 1
   (.seq (.reg [
     .seq ⟨some 24, .ia 1 (.t 20) (.t 22), none⟩,
     .seq ⟨some 25, .ld false 1 false (.t 24), none⟩,
     .seq ⟨some 6, .mv true (.t 25), none⟩])
   (.seq (.seq (.reg [
     .seq ⟨some 26, .mv false (.t 6), none⟩,
     .seq ⟨some 27, .len false (.t 26), none⟩,
     .seq ⟨some 28, .bin .lss 0 (.t 27) (.c (.int .i64 1)), none⟩,
     .seq ⟨some 29, .mv false (.t 28), none⟩,
     .seq ⟨some 30, .mv false (.t 6), some (29, false)⟩,
     .seq ⟨some 31, .len false (.t 30), some (29, false)⟩,
     .seq ⟨some 32, .bin .gtr 0 (.t 31) (.c (.int .i64 96)), some (29, false)⟩,
     .seq ⟨some 33, .pick (.t 29) (.c (.bool true)) (.t 32), none⟩])
   (.cond (.t 33)
    (.seq (.reg [
      .seq ⟨some 4, .mv true (.c (.bool false)), none⟩])
    (.ret))
    (.nop)))
   (.seq (.reg [
     .seq ⟨some 34, .mv false (.t 6), none⟩,
     .seq ⟨some 35, .len false (.t 34), none⟩,
     .seq ⟨some 36, .mv false (.c (.int .i64 0)), none⟩])
   (.blk 2
    (.loop (.seq (.reg [
      .seq ⟨some 37, .bin .lss 0 (.t 36) (.t 35), none⟩])
    (.seq (.cond (.t 37)
     (.nop)
     (.exit 2))
    (.seq (.blk 3
     (.seq (.reg [
       .seq ⟨some 38, .ia 3 (.t 34) (.t 36), none⟩,
       .seq ⟨some 39, .ld false 3 true (.t 38), none⟩,
       .seq ⟨some 8, .al [.slice .nil [], .int .i64 0, .int .i64 0], none⟩,
       .seq ⟨none, .st 3 (.t 8) (.t 39), none⟩])
     (.seq (.reg [
       .seq ⟨some 40, .fa 0 (.t 8), none⟩,
       .seq ⟨some 41, .ld false 2 true (.t 40), none⟩,
       .seq ⟨some 42, .mv false (.t 1), none⟩,
       .seq ⟨some 43, .call 68 [(.t 41), (.t 42)], none⟩,
       .seq ⟨some 44, .un .not (.t 43), none⟩,
       .seq ⟨some 45, .mv false (.t 44), none⟩,
       .seq ⟨some 46, .fa 2 (.t 8), some (45, false)⟩,
       .seq ⟨some 47, .ld false 1 false (.t 46), some (45, false)⟩,
       .seq ⟨some 48, .bin .lss 0 (.t 47) (.c (.int .i64 1)), some (45, false)⟩,
       .seq ⟨some 49, .pick (.t 45) (.c (.bool true)) (.t 48), none⟩,
       .seq ⟨some 50, .mv false (.t 49), none⟩,
       .seq ⟨some 51, .fa 2 (.t 8), some (50, false)⟩,
       .seq ⟨some 52, .ld false 1 false (.t 51), some (50, false)⟩,
       .seq ⟨some 53, .bin .gtr 0 (.t 52) (.c (.int .i64 512)), some (50, false)⟩,
       .seq ⟨some 54, .pick (.t 50) (.c (.bool true)) (.t 53), none⟩])
     (.cond (.t 54)
      (.seq (.reg [
        .seq ⟨some 4, .mv true (.c (.bool false)), none⟩])
      (.ret))
      (.nop)))))
    (.reg [
      .seq ⟨some 55, .bin .add 0 (.t 36) (.c (.int .i64 1)), none⟩,
      .seq ⟨some 36, .mv false (.t 55), none⟩]))))))))))
  (.reg [
    .seq ⟨some 56, .bin .add 0 (.t 22) (.c (.int .i64 1)), none⟩,
    .seq ⟨some 22, .mv false (.t 56), none⟩])))))))
 (.seq (.reg [
   .seq ⟨some 4, .mv true (.c (.bool true)), none⟩])
 (.ret))))
def a134 : AFunc := ⟨2, 57, [.t 4], c134, false⟩
/-- headland/headlandref04.Valid -/
def c135 : ACode :=
 .seq (.reg [
   .seq ⟨some 1, .box 2 (.t 0), none⟩,
   .seq ⟨some 2, .mv true (.c (.bool false)), none⟩])
 (.seq (.seq (.reg [
   .seq ⟨some 7, .fa 0 (.t 1), none⟩,
   .seq ⟨some 8, .ld false 1 false (.t 7), none⟩,
   .seq ⟨some 9, .bin .lss 0 (.t 8) (.c (.int .i64 0)), none⟩,
   .seq ⟨some 10, .mv false (.t 9), none⟩,
   .seq ⟨some 11, .fa 0 (.t 1), some (10, false)⟩,
   .seq ⟨some 12, .ld false 1 false (.t 11), some (10, false)⟩,
   .seq ⟨some 13, .bin .gtr 0 (.t 12) (.c (.int .i64 12)), some (10, false)⟩,
   .seq ⟨some 14, .pick (.t 10) (.c (.bool true)) (.t 13), none⟩,
   .seq ⟨some 15, .mv false (.t 14), none⟩,
   .seq ⟨some 16, .fa 1 (.t 1), some (15, false)⟩,
   .seq ⟨some 17, .ld false 1 false (.t 16), some (15, false)⟩,
   .seq ⟨some 18, .len false (.t 17), some (15, false)⟩,
   .seq ⟨some 19, .bin .gtr 0 (.t 18) (.c (.int .i64 400)), some (15, false)⟩,
   .seq ⟨some 20, .pick (.t 15) (.c (.bool true)) (.t 19), none⟩])
 (.cond (.t 20)
  (.seq (.reg [
    .seq ⟨some 2, .mv true (.c (.bool false)), none⟩])
  (.ret))
  (.nop)))
 (.seq (.seq (.reg [
   .seq ⟨some 21, .fa 1 (.t 1), none⟩,
   .seq ⟨some 22, .ld false 1 false (.t 21), none⟩,
   .seq ⟨some 23, .len false (.t 22), none⟩,
   .seq ⟨some 24, .mv false (.c (.int .i64 0)), none⟩])
 (.blk 0
  (.loop (.seq (.reg [
    .seq ⟨some 25, .bin .lss 0 (.t 24) (.t 23), none⟩])
  (.seq (.cond (.t 25)
   (.nop)
   (.exit 0))
  (.seq (.blk 1
   (.seq (.reg [
     .seq ⟨some 26, .ia 1 (.t 22) (.t 24), none⟩,
     .seq ⟨some 27, .ld false 1 false (.t 26), none⟩,
     .seq ⟨some 4, .mv true (.t 27), none⟩])
   (.seq (.seq (.reg [
     .seq ⟨some 28, .mv false (.t 4), none⟩,
     .seq ⟨some 29, .len false (.t 28), none⟩,
     .seq ⟨some 30, .bin .gtr 0 (.t 29) (.c (.int .i64 96)), none⟩])
   (.cond (.t 30)
    (.seq (.reg [
      .seq ⟨some 2, .mv true (.c (.bool false)), none⟩])
    (.ret))
    (.nop)))
   (.seq (.reg [
     .seq ⟨some 31, .mv false (.t 4), none⟩,
     .seq ⟨some 32, .len false (.t 31), none⟩,
     .seq ⟨some 33, .mv false (.c (.int .i64 0)), none⟩])
   (.blk 2
    (.loop (.seq (.reg [
      .seq ⟨some 34, .bin .lss 0 (.t 33) (.t 32), none⟩])
    (.seq (.cond (.t 34)
     (.nop)
     (.exit 2))
    (.seq (.blk 3
     (.seq (.reg [
       .seq ⟨some 35, .ia 4 (.t 31) (.t 33), none⟩,
       .seq ⟨some 36, .ld false 4 true (.t 35), none⟩,
       .seq ⟨some 6, .al [.int .i64 0, .int .i64 0, .slice .nil [], .int .i64 0], none⟩,
       .seq ⟨none, .st 4 (.t 6) (.t 36), none⟩])
     (.seq (.reg [
       .seq ⟨some 37, .ld false 4 true (.t 6), none⟩,
       .seq ⟨some 38, .call 152 [(.t 37)], none⟩,
       .seq ⟨some 39, .un .not (.t 38), none⟩,
       .seq ⟨some 40, .mv false (.t 39), none⟩,
       .seq ⟨some 41, .fa 2 (.t 6), some (40, false)⟩,
       .seq ⟨some 42, .fa 0 (.t 41), some (40, false)⟩,
       .seq ⟨some 43, .ld false 1 false (.t 42), some (40, false)⟩,
       .seq ⟨some 44, .len false (.t 43), some (40, false)⟩,
       .seq ⟨some 45, .fa 0 (.t 1), some (40, false)⟩,
       .seq ⟨some 46, .ld false 1 false (.t 45), some (40, false)⟩,
       .seq ⟨some 47, .bin .neq 0 (.t 44) (.t 46), some (40, false)⟩,
       .seq ⟨some 48, .pick (.t 40) (.c (.bool true)) (.t 47), none⟩])
     (.cond (.t 48)
      (.seq (.reg [
        .seq ⟨some 2, .mv true (.c (.bool false)), none⟩])
      (.ret))
      (.nop)))))
    (.reg [
      .seq ⟨some 49, .bin .add 0 (.t 33) (.c (.int .i64 1)), none⟩,
      .seq ⟨some 33, .mv false (.t 49), none⟩]))))))))))
  (.reg [
    .seq ⟨some 50, .bin .add 0 (.t 24) (.c (.int .i64 1)), none⟩,
    .seq ⟨some 24, .mv false (.t 50), none⟩])))))))
 (.seq (.reg [
   .seq ⟨some 2, .mv true (.c (.bool true)), none⟩])
 (.ret))))
def a135 : AFunc := ⟨1, 51, [.t 2], c135, false⟩
/-- (headland/headlandref10.look).cell -/
def c136 : ACode :=
 .seq (.reg [
   .seq ⟨some 4, .box 2 (.t 1), none⟩,
   .seq ⟨some 6, .mv true (.c (.bool false)), none⟩])
 (.seq (.seq (.reg [
   .seq ⟨some 9, .fa 0 (.t 4), none⟩,
   .seq ⟨some 10, .ld false 1 false (.t 9), none⟩,
   .seq ⟨some 11, .bin .lss 0 (.t 10) (.c (.int .i64 0)), none⟩,
   .seq ⟨some 12, .mv false (.t 11), none⟩,
   .free [⟨some 13, .fa 0 (.t 4), some (12, false)⟩, ⟨some 14, .ld false 1 false (.t 13), some (12, false)⟩, ⟨some 15, .mv false (.t 0), some (12, false)⟩, ⟨some 16, .nc (.t 15), some (12, false)⟩, ⟨some 17, .fa 0 (.t 16), some (12, false)⟩, ⟨some 18, .fa 1 (.t 17), some (12, false)⟩, ⟨some 19, .ld false 1 false (.t 18), some (12, false)⟩, ⟨some 20, .len false (.t 19), some (12, false)⟩],
   .seq ⟨some 21, .bin .geq 0 (.t 14) (.t 20), some (12, false)⟩,
   .seq ⟨some 22, .pick (.t 12) (.c (.bool true)) (.t 21), none⟩,
   .seq ⟨some 23, .mv false (.t 22), none⟩,
   .free [⟨some 24, .fa 1 (.t 4), some (23, false)⟩, ⟨some 25, .ld false 1 false (.t 24), some (23, false)⟩, ⟨some 26, .len false (.t 25), some (23, false)⟩, ⟨some 27, .mv false (.t 0), some (23, false)⟩, ⟨some 28, .nc (.t 27), some (23, false)⟩, ⟨some 29, .fa 0 (.t 28), some (23, false)⟩, ⟨some 30, .fa 1 (.t 29), some (23, false)⟩, ⟨some 31, .ld false 1 false (.t 30), some (23, false)⟩, ⟨some 32, .fa 0 (.t 4), some (23, false)⟩, ⟨some 33, .ld false 1 false (.t 32), some (23, false)⟩, ⟨some 34, .ia 2 (.t 31) (.t 33), some (23, false)⟩, ⟨some 35, .fa 1 (.t 34), some (23, false)⟩, ⟨some 36, .ld false 1 false (.t 35), some (23, false)⟩, ⟨some 37, .len false (.t 36), some (23, false)⟩],
   .seq ⟨some 38, .bin .neq 0 (.t 26) (.t 37), some (23, false)⟩,
   .seq ⟨some 39, .pick (.t 23) (.c (.bool true)) (.t 38), none⟩])
 (.cond (.t 39)
  (.seq (.reg [
    .seq ⟨some 6, .mv true (.c (.bool false)), none⟩])
  (.ret))
  (.nop)))
 (.seq (.seq (.reg [
   .seq ⟨some 40, .fa 1 (.t 4), none⟩,
   .seq ⟨some 41, .ld false 1 false (.t 40), none⟩,
   .seq ⟨some 42, .len false (.t 41), none⟩,
   .seq ⟨some 43, .mv false (.c (.int .i64 0)), none⟩])
 (.blk 0
  (.loop (.seq (.reg [
    .seq ⟨some 44, .bin .lss 0 (.t 43) (.t 42), none⟩])
  (.seq (.cond (.t 44)
   (.nop)
   (.exit 0))
  (.seq (.blk 1
   (.seq (.reg [
     .seq ⟨some 45, .ia 2 (.t 41) (.t 43), none⟩,
     .seq ⟨some 46, .ld false 2 true (.t 45), none⟩,
     .seq ⟨some 8, .al [.slice .nil [], .int .i64 0], none⟩,
     .seq ⟨none, .st 2 (.t 8) (.t 46), none⟩])
   (.seq (.reg [
     .seq ⟨some 47, .ld false 2 true (.t 8), none⟩,
     .seq ⟨some 48, .mv false (.t 2), none⟩,
     .seq ⟨some 49, .call 68 [(.t 47), (.t 48)], none⟩,
     .seq ⟨some 50, .un .not (.t 49), none⟩])
   (.cond (.t 50)
    (.seq (.reg [
      .seq ⟨some 6, .mv true (.c (.bool false)), none⟩])
    (.ret))
    (.nop)))))
  (.reg [
    .seq ⟨some 51, .bin .add 0 (.t 43) (.c (.int .i64 1)), none⟩,
    .seq ⟨some 43, .mv false (.t 51), none⟩])))))))
 (.seq (.reg [
   .seq ⟨some 6, .mv true (.c (.bool true)), none⟩])
 (.ret))))
def a136 : AFunc := ⟨3, 52, [.t 6], c136, false⟩
/-- headland/headlandref10.Nodes -/
def c137 : ACode :=
 .seq (.reg [
   .seq ⟨some 1, .box 7 (.t 0), none⟩,
   .seq ⟨some 2, .mv true (.c (.int .i64 0)), none⟩])
 (.seq (.reg [
   .seq ⟨some 3, .mv true (.c (.int .i64 1)), none⟩])
 (.seq (.seq (.reg [
   .seq ⟨some 6, .fa 6 (.t 1), none⟩,
   .seq ⟨some 7, .ld false 1 false (.t 6), none⟩,
   .seq ⟨some 8, .len false (.t 7), none⟩,
   .seq ⟨some 9, .mv false (.c (.int .i64 0)), none⟩])
 (.blk 0
  (.loop (.seq (.reg [
    .seq ⟨some 10, .bin .lss 0 (.t 9) (.t 8), none⟩])
  (.seq (.cond (.t 10)
   (.nop)
   (.exit 0))
  (.seq (.blk 1
   (.seq (.reg [
     .seq ⟨some 11, .ia 7 (.t 7) (.t 9), none⟩,
     .seq ⟨some 12, .ld false 7 true (.t 11), none⟩,
     .seq ⟨some 5, .al [.int .i64 0, .int .i64 0, .slice .nil [], .int .i64 0, .int .i64 0, .slice .nil [], .slice .nil []], none⟩,
     .seq ⟨none, .st 7 (.t 5) (.t 12), none⟩])
   (.seq (.reg [
     .seq ⟨some 13, .mv false (.t 3), none⟩,
     .seq ⟨some 14, .bin .lss 0 (.t 13) (.c (.int .i64 1000)), none⟩])
   (.cond (.t 14)
    (.reg [
      .seq ⟨some 15, .mv false (.t 3), none⟩,
      .seq ⟨some 16, .ld false 7 true (.t 5), none⟩,
      .seq ⟨some 17, .call 137 [(.t 16)], none⟩,
      .seq ⟨some 18, .bin .add 0 (.t 15) (.t 17), none⟩,
      .seq ⟨some 3, .mv true (.t 18), none⟩])
    (.nop)))))
  (.reg [
    .seq ⟨some 19, .bin .add 0 (.t 9) (.c (.int .i64 1)), none⟩,
    .seq ⟨some 9, .mv false (.t 19), none⟩])))))))
 (.seq (.reg [
   .seq ⟨some 20, .mv true (.t 3), none⟩,
   .seq ⟨some 2, .mv true (.t 20), none⟩])
 (.ret))))
def a137 : AFunc := ⟨1, 21, [.t 2], c137, false⟩
/-- (headland/headlandref10.look).expr -/
def c138 : ACode :=
 .seq (.reg [
   .seq ⟨some 4, .box 7 (.t 1), none⟩,
   .seq ⟨some 6, .mv true (.c (.bool false)), none⟩])
 (.seq (.seq (.reg [
   .seq ⟨some 7, .fa 0 (.t 4), none⟩,
   .seq ⟨some 8, .ld false 1 false (.t 7), none⟩])
 (.blk 0
  (.seq (.reg [
    .seq ⟨some 10, .bin .eql 0 (.t 8) (.c (.int .i64 0)), none⟩,
    .seq ⟨some 9, .mv true (.t 10), none⟩])
  (.cond (.t 9)
   (.seq (.reg [
     .seq ⟨some 11, .fa 1 (.t 4), none⟩,
     .seq ⟨some 12, .ld false 1 false (.t 11), none⟩,
     .seq ⟨some 13, .bin .geq 0 (.t 12) (.c (.int .i64 (-2147483648))), none⟩,
     .seq ⟨some 14, .mv false (.t 13), none⟩,
     .seq ⟨some 15, .fa 1 (.t 4), some (14, true)⟩,
     .seq ⟨some 16, .ld false 1 false (.t 15), some (14, true)⟩,
     .seq ⟨some 17, .bin .lss 0 (.t 16) (.c (.int .i64 2147483648)), some (14, true)⟩,
     .seq ⟨some 18, .pick (.t 14) (.t 17) (.c (.bool false)), none⟩,
     .seq ⟨some 19, .mv false (.t 18), none⟩,
     .seq ⟨some 20, .fa 2 (.t 4), some (19, true)⟩,
     .seq ⟨some 21, .ld false 2 true (.t 20), some (19, true)⟩,
     .seq ⟨some 22, .call 151 [(.t 21)], some (19, true)⟩,
     .seq ⟨some 23, .pick (.t 19) (.t 22) (.c (.bool false)), none⟩,
     .seq ⟨some 24, .mv false (.t 23), none⟩,
     .seq ⟨some 25, .fa 4 (.t 4), some (24, true)⟩,
     .seq ⟨some 26, .ld false 2 true (.t 25), some (24, true)⟩,
     .seq ⟨some 27, .call 132 [(.t 26)], some (24, true)⟩,
     .seq ⟨some 28, .pick (.t 24) (.t 27) (.c (.bool false)), none⟩,
     .seq ⟨some 29, .mv false (.t 28), none⟩,
     .seq ⟨some 30, .fa 6 (.t 4), some (29, true)⟩,
     .seq ⟨some 31, .ld false 1 false (.t 30), some (29, true)⟩,
     .seq ⟨some 32, .len false (.t 31), some (29, true)⟩,
     .seq ⟨some 33, .bin .eql 0 (.t 32) (.c (.int .i64 0)), some (29, true)⟩,
     .seq ⟨some 34, .pick (.t 29) (.t 33) (.c (.bool false)), none⟩,
     .seq ⟨some 6, .mv true (.t 34), none⟩])
   (.ret))
   (.seq (.reg [
     .seq ⟨some 36, .bin .eql 0 (.t 8) (.c (.int .i64 1)), none⟩,
     .seq ⟨some 35, .mv true (.t 36), none⟩])
   (.cond (.t 35)
    (.seq (.reg [
      .seq ⟨some 37, .fa 1 (.t 4), none⟩,
      .seq ⟨some 38, .ld false 1 false (.t 37), none⟩,
      .seq ⟨some 39, .bin .eql 0 (.t 38) (.c (.int .i64 0)), none⟩,
      .seq ⟨some 40, .mv false (.t 39), none⟩,
      .seq ⟨some 41, .fa 2 (.t 4), some (40, true)⟩,
      .seq ⟨some 42, .ld false 2 true (.t 41), some (40, true)⟩,
      .seq ⟨some 43, .mv false (.t 2), some (40, true)⟩,
      .seq ⟨some 44, .call 68 [(.t 42), (.t 43)], some (40, true)⟩,
      .seq ⟨some 45, .pick (.t 40) (.t 44) (.c (.bool false)), none⟩,
      .seq ⟨some 46, .mv false (.t 45), none⟩,
      .seq ⟨some 47, .fa 4 (.t 4), some (46, true)⟩,
      .seq ⟨some 48, .ld false 2 true (.t 47), some (46, true)⟩,
      .seq ⟨some 49, .call 132 [(.t 48)], some (46, true)⟩,
      .seq ⟨some 50, .pick (.t 46) (.t 49) (.c (.bool false)), none⟩,
      .seq ⟨some 51, .mv false (.t 50), none⟩,
      .seq ⟨some 52, .fa 6 (.t 4), some (51, true)⟩,
      .seq ⟨some 53, .ld false 1 false (.t 52), some (51, true)⟩,
      .seq ⟨some 54, .len false (.t 53), some (51, true)⟩,
      .seq ⟨some 55, .bin .eql 0 (.t 54) (.c (.int .i64 0)), some (51, true)⟩,
      .seq ⟨some 56, .pick (.t 51) (.t 55) (.c (.bool false)), none⟩,
      .seq ⟨some 6, .mv true (.t 56), none⟩])
    (.ret))
    (.seq (.reg [
      .seq ⟨some 58, .bin .eql 0 (.t 8) (.c (.int .i64 2)), none⟩,
      .seq ⟨some 57, .mv true (.t 58), none⟩])
    (.cond (.t 57)
     (.seq (.reg [
       .seq ⟨some 59, .fa 1 (.t 4), none⟩,
       .seq ⟨some 60, .ld false 1 false (.t 59), none⟩,
       .seq ⟨some 61, .bin .eql 0 (.t 60) (.c (.int .i64 0)), none⟩,
       .seq ⟨some 62, .mv false (.t 61), none⟩,
       .seq ⟨some 63, .fa 2 (.t 4), some (62, true)⟩,
       .seq ⟨some 64, .ld false 2 true (.t 63), some (62, true)⟩,
       .seq ⟨some 65, .call 151 [(.t 64)], some (62, true)⟩,
       .seq ⟨some 66, .pick (.t 62) (.t 65) (.c (.bool false)), none⟩,
       .seq ⟨some 67, .mv false (.t 66), none⟩,
       .seq ⟨some 68, .mv false (.t 0), some (67, true)⟩,
       .seq ⟨some 69, .fa 4 (.t 4), some (67, true)⟩,
       .seq ⟨some 70, .ld false 2 true (.t 69), some (67, true)⟩,
       .seq ⟨some 71, .mv false (.t 2), some (67, true)⟩,
       .seq ⟨some 72, .call 136 [(.t 68), (.t 70), (.t 71)], some (67, true)⟩,
       .seq ⟨some 73, .pick (.t 67) (.t 72) (.c (.bool false)), none⟩,
       .seq ⟨some 74, .mv false (.t 73), none⟩,
       .seq ⟨some 75, .fa 6 (.t 4), some (74, true)⟩,
       .seq ⟨some 76, .ld false 1 false (.t 75), some (74, true)⟩,
       .seq ⟨some 77, .len false (.t 76), some (74, true)⟩,
       .seq ⟨some 78, .bin .eql 0 (.t 77) (.c (.int .i64 0)), some (74, true)⟩,
       .seq ⟨some 79, .pick (.t 74) (.t 78) (.c (.bool false)), none⟩,
       .seq ⟨some 6, .mv true (.t 79), none⟩])
     (.ret))
     (.seq (.seq (.reg [
       .seq ⟨some 81, .bin .eql 0 (.t 8) (.c (.int .i64 3)), none⟩,
       .seq ⟨some 80, .mv true (.t 81), none⟩])
     (.cond (.t 80)
      (.nop)
      (.seq (.reg [
        .seq ⟨some 82, .bin .eql 0 (.t 8) (.c (.int .i64 4)), none⟩,
        .seq ⟨some 80, .mv true (.t 82), none⟩])
      (.cond (.t 80)
       (.nop)
       (.seq (.reg [
         .seq ⟨some 83, .bin .eql 0 (.t 8) (.c (.int .i64 5)), none⟩,
         .seq ⟨some 80, .mv true (.t 83), none⟩])
       (.cond (.t 80)
        (.nop)
        (.seq (.reg [
          .seq ⟨some 84, .bin .eql 0 (.t 8) (.c (.int .i64 6)), none⟩,
          .seq ⟨some 80, .mv true (.t 84), none⟩])
        (.cond (.t 80)
         (.nop)
         (.reg [
           .seq ⟨some 85, .bin .eql 0 (.t 8) (.c (.int .i64 7)), none⟩,
           .seq ⟨some 80, .mv true (.t 85), none⟩])))))))))
     (.cond (.t 80)
      (.seq (.reg [
        .seq ⟨some 86, .fa 1 (.t 4), none⟩,
        .seq ⟨some 87, .ld false 1 false (.t 86), none⟩,
        .seq ⟨some 88, .bin .eql 0 (.t 87) (.c (.int .i64 0)), none⟩,
        .seq ⟨some 89, .mv false (.t 88), none⟩,
        .seq ⟨some 90, .fa 2 (.t 4), some (89, true)⟩,
        .seq ⟨some 91, .ld false 2 true (.t 90), some (89, true)⟩,
        .seq ⟨some 92, .call 151 [(.t 91)], some (89, true)⟩,
        .seq ⟨some 93, .pick (.t 89) (.t 92) (.c (.bool false)), none⟩,
        .seq ⟨some 94, .mv false (.t 93), none⟩,
        .seq ⟨some 95, .fa 4 (.t 4), some (94, true)⟩,
        .seq ⟨some 96, .ld false 2 true (.t 95), some (94, true)⟩,
        .seq ⟨some 97, .call 132 [(.t 96)], some (94, true)⟩,
        .seq ⟨some 98, .pick (.t 94) (.t 97) (.c (.bool false)), none⟩,
        .seq ⟨some 99, .mv false (.t 98), none⟩,
        .seq ⟨some 100, .fa 6 (.t 4), some (99, true)⟩,
        .seq ⟨some 101, .ld false 1 false (.t 100), some (99, true)⟩,
        .seq ⟨some 102, .len false (.t 101), some (99, true)⟩,
        .seq ⟨some 103, .bin .eql 0 (.t 102) (.c (.int .i64 2)), some (99, true)⟩,
        .seq ⟨some 104, .pick (.t 99) (.t 103) (.c (.bool false)), none⟩,
        .seq ⟨some 105, .mv false (.t 104), none⟩,
        .seq ⟨some 106, .mv false (.t 0), some (105, true)⟩,
        .seq ⟨some 107, .fa 6 (.t 4), some (105, true)⟩,
        .seq ⟨some 108, .ld false 1 false (.t 107), some (105, true)⟩,
        .seq ⟨some 109, .ia 7 (.t 108) (.c (.int .i64 0)), some (105, true)⟩,
        .seq ⟨some 110, .ld false 7 true (.t 109), some (105, true)⟩,
        .seq ⟨some 111, .mv false (.t 2), some (105, true)⟩,
        .seq ⟨some 112, .call 138 [(.t 106), (.t 110), (.t 111)], some (105, true)⟩,
        .seq ⟨some 113, .pick (.t 105) (.t 112) (.c (.bool false)), none⟩,
        .seq ⟨some 114, .mv false (.t 113), none⟩,
        .seq ⟨some 115, .mv false (.t 0), some (114, true)⟩,
        .seq ⟨some 116, .fa 6 (.t 4), some (114, true)⟩,
        .seq ⟨some 117, .ld false 1 false (.t 116), some (114, true)⟩,
        .seq ⟨some 118, .ia 7 (.t 117) (.c (.int .i64 1)), some (114, true)⟩,
        .seq ⟨some 119, .ld false 7 true (.t 118), some (114, true)⟩,
        .seq ⟨some 120, .mv false (.t 2), some (114, true)⟩,
        .seq ⟨some 121, .call 138 [(.t 115), (.t 119), (.t 120)], some (114, true)⟩,
        .seq ⟨some 122, .pick (.t 114) (.t 121) (.c (.bool false)), none⟩,
        .seq ⟨some 6, .mv true (.t 122), none⟩])
      (.ret))
      (.nop)))))))))))
 (.seq (.reg [
   .seq ⟨some 6, .mv true (.c (.bool false)), none⟩])
 (.ret)))
def a138 : AFunc := ⟨3, 123, [.t 6], c138, false⟩
/-- headland/set.Valid -/
def c142 : ACode :=
 .seq (.reg [
   .seq ⟨some 1, .box 2 (.t 0), none⟩,
   .seq ⟨some 2, .mv true (.c (.bool false)), none⟩])
 (.seq (.seq (.reg [
   .seq ⟨some 5, .fa 0 (.t 1), none⟩,
   .seq ⟨some 6, .ld false 1 false (.t 5), none⟩,
   .seq ⟨some 7, .bin .lss 0 (.t 6) (.c (.int .i64 0)), none⟩,
   .seq ⟨some 8, .mv false (.t 7), none⟩,
   .seq ⟨some 9, .fa 0 (.t 1), some (8, false)⟩,
   .seq ⟨some 10, .ld false 1 false (.t 9), some (8, false)⟩,
   .seq ⟨some 11, .bin .gtr 0 (.t 10) (.c (.int .i64 12)), some (8, false)⟩,
   .seq ⟨some 12, .pick (.t 8) (.c (.bool true)) (.t 11), none⟩,
   .seq ⟨some 13, .mv false (.t 12), none⟩,
   .seq ⟨some 14, .fa 1 (.t 1), some (13, false)⟩,
   .seq ⟨some 15, .ld false 1 false (.t 14), some (13, false)⟩,
   .seq ⟨some 16, .len false (.t 15), some (13, false)⟩,
   .seq ⟨some 17, .bin .gtr 0 (.t 16) (.c (.int .i64 400)), some (13, false)⟩,
   .seq ⟨some 18, .pick (.t 13) (.c (.bool true)) (.t 17), none⟩])
 (.cond (.t 18)
  (.seq (.reg [
    .seq ⟨some 2, .mv true (.c (.bool false)), none⟩])
  (.ret))
  (.nop)))
 (.seq (.seq (.reg [
   .seq ⟨some 19, .fa 1 (.t 1), none⟩,
   .seq ⟨some 20, .ld false 1 false (.t 19), none⟩,
   .seq ⟨some 21, .len false (.t 20), none⟩,
   .seq ⟨some 22, .mv false (.c (.int .i64 0)), none⟩])
 (.blk 0
  (.loop (.seq (.reg [
    .seq ⟨some 23, .bin .lss 0 (.t 22) (.t 21), none⟩])
  (.seq (.cond (.t 23)
   (.nop)
   (.exit 0))
  (.seq (.blk 1
   (.seq (.reg [
     .seq ⟨some 24, .ia 1 (.t 20) (.t 22), none⟩,
     .seq ⟨some 25, .ld false 1 false (.t 24), none⟩,
     .seq ⟨some 4, .mv true (.t 25), none⟩])
   (.seq (.reg [
     .seq ⟨some 26, .mv false (.t 4), none⟩,
     .seq ⟨some 27, .len false (.t 26), none⟩,
     .seq ⟨some 28, .bin .gtr 0 (.t 27) (.c (.int .i64 96)), none⟩,
     .seq ⟨some 29, .mv false (.t 28), none⟩,
     .seq ⟨some 30, .mv false (.t 4), some (29, false)⟩,
     .seq ⟨some 31, .fa 0 (.t 1), some (29, false)⟩,
     .seq ⟨some 32, .ld false 1 false (.t 31), some (29, false)⟩,
     .seq ⟨some 33, .call 156 [(.t 30), (.t 32)], some (29, false)⟩,
     .seq ⟨some 34, .un .not (.t 33), some (29, false)⟩,
     .seq ⟨some 35, .pick (.t 29) (.c (.bool true)) (.t 34), none⟩])
   (.cond (.t 35)
    (.seq (.reg [
      .seq ⟨some 2, .mv true (.c (.bool false)), none⟩])
    (.ret))
    (.nop)))))
  (.reg [
    .seq ⟨some 36, .bin .add 0 (.t 22) (.c (.int .i64 1)), none⟩,
    .seq ⟨some 22, .mv false (.t 36), none⟩])))))))
 (.seq (.reg [
   .seq ⟨some 2, .mv true (.c (.bool true)), none⟩])
 (.ret))))
def a142 : AFunc := ⟨1, 37, [.t 2], c142, false⟩
/-- strings.Index -/
def c150 : ACode :=
 .seq (.reg [
   .seq ⟨some 4, .mv true (.c (.int .i64 0)), none⟩])
 (.seq (.reg [
   .seq ⟨some 5, .mv false (.t 0), none⟩,
   .seq ⟨some 6, .mv false (.t 1), none⟩,
   .seq ⟨some 7, .call 161 [(.t 5), (.t 6)], none⟩,
   .seq ⟨some 4, .mv true (.t 7), none⟩])
 (.ret))
def a150 : AFunc := ⟨2, 8, [.t 4], c150, false⟩
/-- headland/headlandref10.zeroLin -/
def c151 : ACode :=
 .seq (.reg [
   .seq ⟨some 1, .box 2 (.t 0), none⟩,
   .seq ⟨some 2, .mv true (.c (.bool false)), none⟩])
 (.seq (.reg [
   .seq ⟨some 3, .fa 0 (.t 1), none⟩,
   .seq ⟨some 4, .ld false 1 false (.t 3), none⟩,
   .seq ⟨some 5, .len false (.t 4), none⟩,
   .seq ⟨some 6, .bin .eql 0 (.t 5) (.c (.int .i64 0)), none⟩,
   .seq ⟨some 7, .mv false (.t 6), none⟩,
   .seq ⟨some 8, .fa 1 (.t 1), some (7, true)⟩,
   .seq ⟨some 9, .ld false 1 false (.t 8), some (7, true)⟩,
   .seq ⟨some 10, .bin .eql 0 (.t 9) (.c (.int .i64 0)), some (7, true)⟩,
   .seq ⟨some 11, .pick (.t 7) (.t 10) (.c (.bool false)), none⟩,
   .seq ⟨some 2, .mv true (.t 11), none⟩])
 (.ret))
def a151 : AFunc := ⟨1, 12, [.t 2], c151, false⟩
/-- headland/headlandref03.Valid -/
def c152 : ACode :=
 .seq (.reg [
   .seq ⟨some 1, .box 4 (.t 0), none⟩,
   .seq ⟨some 2, .mv true (.c (.bool false)), none⟩])
 (.seq (.seq (.reg [
   .seq ⟨some 3, .fa 2 (.t 1), none⟩,
   .seq ⟨some 4, .ld false 2 true (.t 3), none⟩,
   .seq ⟨some 5, .call 99 [(.t 4)], none⟩,
   .seq ⟨some 6, .un .not (.t 5), none⟩])
 (.cond (.t 6)
  (.seq (.reg [
    .seq ⟨some 2, .mv true (.c (.bool false)), none⟩])
  (.ret))
  (.nop)))
 (.seq (.seq (.reg [
   .seq ⟨some 7, .fa 0 (.t 1), none⟩,
   .seq ⟨some 8, .ld false 1 false (.t 7), none⟩,
   .seq ⟨some 9, .bin .eql 0 (.t 8) (.c (.int .i64 2)), none⟩])
 (.cond (.t 9)
  (.seq (.reg [
    .seq ⟨some 10, .fa 1 (.t 1), none⟩,
    .seq ⟨some 11, .ld false 1 false (.t 10), none⟩,
    .seq ⟨some 12, .bin .geq 0 (.t 11) (.c (.int .i64 1)), none⟩,
    .seq ⟨some 13, .mv false (.t 12), none⟩,
    .seq ⟨some 14, .fa 1 (.t 1), some (13, true)⟩,
    .seq ⟨some 15, .ld false 1 false (.t 14), some (13, true)⟩,
    .seq ⟨some 16, .bin .leq 0 (.t 15) (.c (.int .i64 512)), some (13, true)⟩,
    .seq ⟨some 17, .pick (.t 13) (.t 16) (.c (.bool false)), none⟩,
    .seq ⟨some 2, .mv true (.t 17), none⟩])
  (.ret))
  (.nop)))
 (.seq (.reg [
   .seq ⟨some 18, .fa 0 (.t 1), none⟩,
   .seq ⟨some 19, .ld false 1 false (.t 18), none⟩,
   .seq ⟨some 20, .bin .eql 0 (.t 19) (.c (.int .i64 0)), none⟩,
   .seq ⟨some 21, .mv false (.t 20), none⟩,
   .seq ⟨some 22, .fa 0 (.t 1), some (21, false)⟩,
   .seq ⟨some 23, .ld false 1 false (.t 22), some (21, false)⟩,
   .seq ⟨some 24, .bin .eql 0 (.t 23) (.c (.int .i64 1)), some (21, false)⟩,
   .seq ⟨some 25, .pick (.t 21) (.c (.bool true)) (.t 24), none⟩,
   .seq ⟨some 26, .mv false (.t 25), none⟩,
   .seq ⟨some 27, .fa 1 (.t 1), some (26, true)⟩,
   .seq ⟨some 28, .ld false 1 false (.t 27), some (26, true)⟩,
   .seq ⟨some 29, .bin .eql 0 (.t 28) (.c (.int .i64 0)), some (26, true)⟩,
   .seq ⟨some 30, .pick (.t 26) (.t 29) (.c (.bool false)), none⟩,
   .seq ⟨some 2, .mv true (.t 30), none⟩])
 (.ret))))
def a152 : AFunc := ⟨1, 31, [.t 2], c152, false⟩
/-- headland/set.over -/
def c156 : ACode :=
 .seq (.reg [
   .seq ⟨some 4, .mv true (.c (.bool false)), none⟩])
 (.seq (.seq (.reg [
   .seq ⟨some 7, .mv false (.t 0), none⟩,
   .seq ⟨some 8, .len false (.t 7), none⟩,
   .seq ⟨some 9, .mv false (.c (.int .i64 0)), none⟩])
 (.blk 0
  (.loop (.seq (.reg [
    .seq ⟨some 10, .bin .lss 0 (.t 9) (.t 8), none⟩])
  (.seq (.cond (.t 10)
   (.nop)
   (.exit 0))
  (.seq (.blk 1
   (.seq (.reg [
     .seq ⟨some 11, .ia 4 (.t 7) (.t 9), none⟩,
     .seq ⟨some 12, .ld false 4 true (.t 11), none⟩,
     .seq ⟨some 6, .al [.int .i64 0, .int .i64 0, .slice .nil [], .int .i64 0], none⟩,
     .seq ⟨none, .st 4 (.t 6) (.t 12), none⟩])
   (.seq (.reg [
     .seq ⟨some 13, .ld false 4 true (.t 6), none⟩,
     .seq ⟨some 14, .call 159 [(.t 13)], none⟩,
     .seq ⟨some 15, .un .not (.t 14), none⟩,
     .seq ⟨some 16, .mv false (.t 15), none⟩,
     .seq ⟨some 17, .fa 2 (.t 6), some (16, false)⟩,
     .seq ⟨some 18, .fa 0 (.t 17), some (16, false)⟩,
     .seq ⟨some 19, .ld false 1 false (.t 18), some (16, false)⟩,
     .seq ⟨some 20, .len false (.t 19), some (16, false)⟩,
     .seq ⟨some 21, .mv false (.t 1), some (16, false)⟩,
     .seq ⟨some 22, .bin .neq 0 (.t 20) (.t 21), some (16, false)⟩,
     .seq ⟨some 23, .pick (.t 16) (.c (.bool true)) (.t 22), none⟩])
   (.cond (.t 23)
    (.seq (.reg [
      .seq ⟨some 4, .mv true (.c (.bool false)), none⟩])
    (.ret))
    (.nop)))))
  (.reg [
    .seq ⟨some 24, .bin .add 0 (.t 9) (.c (.int .i64 1)), none⟩,
    .seq ⟨some 9, .mv false (.t 24), none⟩])))))))
 (.seq (.reg [
   .seq ⟨some 4, .mv true (.c (.bool true)), none⟩])
 (.ret)))
def a156 : AFunc := ⟨2, 25, [.t 4], c156, false⟩
/-- headland/cond.Valid -/
def c159 : ACode :=
 .seq (.reg [
   .seq ⟨some 1, .box 4 (.t 0), none⟩,
   .seq ⟨some 2, .mv true (.c (.bool false)), none⟩])
 (.seq (.seq (.reg [
   .seq ⟨some 3, .fa 0 (.t 1), none⟩,
   .seq ⟨some 4, .ld false 1 false (.t 3), none⟩])
 (.blk 0
  (.seq (.seq (.reg [
    .seq ⟨some 6, .bin .eql 0 (.t 4) (.c (.int .i64 0)), none⟩,
    .seq ⟨some 5, .mv true (.t 6), none⟩])
  (.cond (.t 5)
   (.nop)
   (.reg [
     .seq ⟨some 7, .bin .eql 0 (.t 4) (.c (.int .i64 1)), none⟩,
     .seq ⟨some 5, .mv true (.t 7), none⟩])))
  (.cond (.t 5)
   (.seq (.reg [
     .seq ⟨some 8, .fa 1 (.t 1), none⟩,
     .seq ⟨some 9, .ld false 1 false (.t 8), none⟩,
     .seq ⟨some 10, .bin .eql 0 (.t 9) (.c (.int .i64 0)), none⟩,
     .seq ⟨some 11, .mv false (.t 10), none⟩,
     .seq ⟨some 12, .fa 2 (.t 1), some (11, true)⟩,
     .seq ⟨some 13, .ld false 2 true (.t 12), some (11, true)⟩,
     .seq ⟨some 14, .call 98 [(.t 13)], some (11, true)⟩,
     .seq ⟨some 15, .pick (.t 11) (.t 14) (.c (.bool false)), none⟩,
     .seq ⟨some 2, .mv true (.t 15), none⟩])
   (.ret))
   (.seq (.reg [
     .seq ⟨some 17, .bin .eql 0 (.t 4) (.c (.int .i64 2)), none⟩,
     .seq ⟨some 16, .mv true (.t 17), none⟩])
   (.cond (.t 16)
    (.seq (.reg [
      .seq ⟨some 18, .fa 1 (.t 1), none⟩,
      .seq ⟨some 19, .ld false 1 false (.t 18), none⟩,
      .seq ⟨some 20, .bin .geq 0 (.t 19) (.c (.int .i64 1)), none⟩,
      .seq ⟨some 21, .mv false (.t 20), none⟩,
      .seq ⟨some 22, .fa 1 (.t 1), some (21, true)⟩,
      .seq ⟨some 23, .ld false 1 false (.t 22), some (21, true)⟩,
      .seq ⟨some 24, .bin .leq 0 (.t 23) (.c (.int .i64 512)), some (21, true)⟩,
      .seq ⟨some 25, .pick (.t 21) (.t 24) (.c (.bool false)), none⟩,
      .seq ⟨some 26, .mv false (.t 25), none⟩,
      .seq ⟨some 27, .fa 2 (.t 1), some (26, true)⟩,
      .seq ⟨some 28, .ld false 2 true (.t 27), some (26, true)⟩,
      .seq ⟨some 29, .call 98 [(.t 28)], some (26, true)⟩,
      .seq ⟨some 30, .pick (.t 26) (.t 29) (.c (.bool false)), none⟩,
      .seq ⟨some 2, .mv true (.t 30), none⟩])
    (.ret))
    (.nop)))))))
 (.seq (.reg [
   .seq ⟨some 2, .mv true (.c (.bool false)), none⟩])
 (.ret)))
def a159 : AFunc := ⟨1, 31, [.t 2], c159, false⟩
/-- (headland/lang.loop).check -/
def c184 : ACode :=
 .seq (.reg [
   .seq ⟨some 3, .box 19 (.t 0), none⟩])
 (.seq (.reg [
   .seq ⟨some 7, .fa 0 (.t 3), none⟩,
   .seq ⟨some 8, .ld false 19 true (.t 7), none⟩,
   .seq ⟨some 6, .al [.int .i64 0, .str ⟨#[]⟩, .slice .nil [], .slice .nil [], .int .i64 0, .int .i64 0, .int .i64 0, .slice .nil [], .int .i64 0, .slice .nil [], .int .i64 0, .int .i64 0, .slice .nil [], .int .i64 0, .int .i64 0, .slice .nil [], .slice .nil [], .slice .nil [], .slice .nil []], none⟩,
   .seq ⟨none, .st 19 (.t 6) (.t 8), none⟩])
 (.seq (.reg [
   .seq ⟨some 9, .fa 1 (.t 6), none⟩,
   .seq ⟨some 10, .ld false 1 false (.t 9), none⟩,
   .seq ⟨some 11, .mv false (.t 2), none⟩,
   .seq ⟨some 12, .call 65 [(.t 10), (.t 11)], none⟩,
   .seq ⟨some 13, .mv false (.t 12), none⟩,
   .seq ⟨some 14, .mv false (.t 1), some (13, true)⟩,
   .seq ⟨some 15, .nc (.t 14), some (13, true)⟩,
   .seq ⟨some 16, .fa 0 (.t 15), some (13, true)⟩,
   .seq ⟨some 17, .fa 1 (.t 16), some (13, true)⟩,
   .seq ⟨some 18, .ld false 1 false (.t 17), some (13, true)⟩,
   .seq ⟨some 19, .fn 186 [(.t 6)], some (13, true)⟩,
   .seq ⟨some 20, .call 185 [(.t 18), (.t 19)], some (13, true)⟩,
   .seq ⟨some 21, .un .not (.t 20), some (13, true)⟩,
   .seq ⟨some 22, .pick (.t 13) (.t 21) (.c (.bool false)), none⟩,
   .seq ⟨some 23, .call 64 [(.t 22)], none⟩])
 (.seq (.reg [
   .seq ⟨some 24, .fa 2 (.t 6), none⟩,
   .seq ⟨some 25, .ld false 1 true (.t 24), none⟩,
   .seq ⟨some 26, .mv false (.t 2), none⟩,
   .seq ⟨some 27, .len false (.t 26), none⟩,
   .seq ⟨some 28, .call 187 [(.t 25), (.t 27)], none⟩])
 (.seq (.reg [
   .seq ⟨some 29, .fa 3 (.t 6), none⟩,
   .seq ⟨some 30, .ld false 1 true (.t 29), none⟩,
   .seq ⟨some 31, .mv false (.t 2), none⟩,
   .seq ⟨some 32, .len false (.t 31), none⟩,
   .seq ⟨some 33, .call 187 [(.t 30), (.t 32)], none⟩])
 (.seq (.reg [
   .seq ⟨some 34, .fa 4 (.t 6), none⟩,
   .seq ⟨some 35, .ld false 1 false (.t 34), none⟩,
   .seq ⟨some 36, .bin .geq 0 (.t 35) (.c (.int .i64 1)), none⟩,
   .seq ⟨some 37, .mv false (.t 36), none⟩,
   .seq ⟨some 38, .fa 4 (.t 6), some (37, true)⟩,
   .seq ⟨some 39, .ld false 1 false (.t 38), some (37, true)⟩,
   .seq ⟨some 40, .bin .leq 0 (.t 39) (.c (.int .i64 64)), some (37, true)⟩,
   .seq ⟨some 41, .pick (.t 37) (.t 40) (.c (.bool false)), none⟩,
   .seq ⟨some 42, .mv false (.t 41), none⟩,
   .seq ⟨some 43, .fa 5 (.t 6), some (42, true)⟩,
   .seq ⟨some 44, .ld false 1 false (.t 43), some (42, true)⟩,
   .seq ⟨some 45, .bin .geq 0 (.t 44) (.c (.int .i64 0)), some (42, true)⟩,
   .seq ⟨some 46, .pick (.t 42) (.t 45) (.c (.bool false)), none⟩,
   .seq ⟨some 47, .mv false (.t 46), none⟩,
   .seq ⟨some 48, .fa 5 (.t 6), some (47, true)⟩,
   .seq ⟨some 49, .ld false 1 false (.t 48), some (47, true)⟩,
   .seq ⟨some 50, .bin .leq 0 (.t 49) (.c (.int .i64 2)), some (47, true)⟩,
   .seq ⟨some 51, .pick (.t 47) (.t 50) (.c (.bool false)), none⟩,
   .seq ⟨some 52, .call 64 [(.t 51)], none⟩])
 (.seq (.reg [
   .seq ⟨some 53, .fa 4 (.t 6), none⟩,
   .seq ⟨some 54, .ld false 1 false (.t 53), none⟩,
   .seq ⟨some 55, .bin .eql 0 (.t 54) (.c (.int .i64 1)), none⟩,
   .seq ⟨some 56, .mv false (.t 55), none⟩,
   .seq ⟨some 57, .fa 2 (.t 6), some (56, false)⟩,
   .seq ⟨some 58, .fa 0 (.t 57), some (56, false)⟩,
   .seq ⟨some 59, .ld false 1 false (.t 58), some (56, false)⟩,
   .seq ⟨some 60, .len false (.t 59), some (56, false)⟩,
   .seq ⟨some 61, .bin .eql 0 (.t 60) (.c (.int .i64 1)), some (56, false)⟩,
   .seq ⟨some 62, .mv false (.t 61), some (56, false)⟩,
   .seq ⟨some 63, .fa 2 (.t 6), some (62, true)⟩,
   .seq ⟨some 64, .fa 0 (.t 63), some (62, true)⟩,
   .seq ⟨some 65, .ld false 1 false (.t 64), some (62, true)⟩,
   .seq ⟨some 66, .ia 1 (.t 65) (.c (.int .i64 0)), some (62, true)⟩,
   .seq ⟨some 67, .ld false 1 false (.t 66), some (62, true)⟩,
   .seq ⟨some 68, .len false (.t 67), some (62, true)⟩,
   .seq ⟨some 69, .bin .eql 0 (.t 68) (.c (.int .i64 1)), some (62, true)⟩,
   .seq ⟨some 70, .pick (.t 62) (.t 69) (.c (.bool false)), some (56, false)⟩,
   .seq ⟨some 71, .mv false (.t 70), some (56, false)⟩,
   .seq ⟨some 72, .fa 2 (.t 6), some (71, true)⟩,
   .seq ⟨some 73, .fa 0 (.t 72), some (71, true)⟩,
   .seq ⟨some 74, .ld false 1 false (.t 73), some (71, true)⟩,
   .seq ⟨some 75, .ia 1 (.t 74) (.c (.int .i64 0)), some (71, true)⟩,
   .seq ⟨some 76, .ld false 1 false (.t 75), some (71, true)⟩,
   .seq ⟨some 77, .ia 3 (.t 76) (.c (.int .i64 0)), some (71, true)⟩,
   .seq ⟨some 78, .fa 2 (.t 77), some (71, true)⟩,
   .seq ⟨some 79, .ld false 1 false (.t 78), some (71, true)⟩,
   .seq ⟨some 80, .bin .eql 0 (.t 79) (.c (.int .i64 1)), some (71, true)⟩,
   .seq ⟨some 81, .pick (.t 71) (.t 80) (.c (.bool false)), some (56, false)⟩,
   .seq ⟨some 82, .pick (.t 56) (.c (.bool true)) (.t 81), none⟩,
   .seq ⟨some 83, .call 64 [(.t 82)], none⟩])
 (.seq (.reg [
   .seq ⟨some 84, .fa 6 (.t 6), none⟩,
   .seq ⟨some 85, .ld false 2 true (.t 84), none⟩,
   .seq ⟨some 86, .call 188 [(.t 85)], none⟩,
   .seq ⟨some 87, .mv false (.t 86), none⟩,
   .seq ⟨some 88, .fa 8 (.t 6), some (87, true)⟩,
   .seq ⟨some 89, .ld false 2 true (.t 88), some (87, true)⟩,
   .seq ⟨some 90, .call 189 [(.t 89)], some (87, true)⟩,
   .seq ⟨some 91, .pick (.t 87) (.t 90) (.c (.bool false)), none⟩,
   .seq ⟨some 92, .mv false (.t 91), none⟩,
   .seq ⟨some 93, .fa 10 (.t 6), some (92, true)⟩,
   .seq ⟨some 94, .ld false 7 true (.t 93), some (92, true)⟩,
   .seq ⟨some 95, .call 190 [(.t 94)], some (92, true)⟩,
   .seq ⟨some 96, .pick (.t 92) (.t 95) (.c (.bool false)), none⟩,
   .seq ⟨some 97, .mv false (.t 96), none⟩,
   .seq ⟨some 98, .fa 18 (.t 6), some (97, true)⟩,
   .seq ⟨some 99, .ld false 1 false (.t 98), some (97, true)⟩,
   .seq ⟨some 100, .len false (.t 99), some (97, true)⟩,
   .seq ⟨some 101, .bin .eql 0 (.t 100) (.c (.int .i64 0)), some (97, true)⟩,
   .seq ⟨some 102, .pick (.t 97) (.t 101) (.c (.bool false)), none⟩,
   .seq ⟨some 103, .call 64 [(.t 102)], none⟩])
 (.reg [
   .free [⟨some 104, .mv false (.t 1), none⟩, ⟨some 105, .fa 17 (.t 6), none⟩, ⟨some 106, .ld false 1 false (.t 105), none⟩, ⟨some 107, .mv false (.t 2), none⟩, ⟨some 108, .call 32 [(.t 107)], none⟩, ⟨some 109, .fa 1 (.t 6), none⟩, ⟨some 110, .ld false 1 false (.t 109), none⟩, ⟨some 111, .row 9 1 [(.t 110)], none⟩, ⟨some 112, .app 9 1 16 (.t 108) (.t 111), none⟩],
   .seq ⟨some 113, .call 31 [(.t 104), (.t 106), (.t 112)], none⟩]))))))))
def a184 : AFunc := ⟨3, 114, [], c184, false⟩
/-- slices.ContainsFunc[[]headland/api.Array,headland/api.Array] -/
def c185 : ACode :=
 .seq (.reg [
   .seq ⟨some 4, .mv true (.c (.bool false)), none⟩])
 (.seq (.reg [
   .seq ⟨some 5, .mv false (.t 0), none⟩,
   .seq ⟨some 6, .mv false (.t 1), none⟩,
   .seq ⟨some 7, .call 191 [(.t 5), (.t 6)], none⟩,
   .seq ⟨some 8, .bin .geq 0 (.t 7) (.c (.int .i64 0)), none⟩,
   .seq ⟨some 4, .mv true (.t 8), none⟩])
 (.ret))
def a185 : AFunc := ⟨2, 9, [.t 4], c185, false⟩
/-- (headland/lang.loop).check$1 -/
def c186 : ACode :=
 .seq (.reg [
   .seq ⟨some 2, .box 2 (.t 0), none⟩,
   .seq ⟨some 3, .mv true (.c (.bool false)), none⟩])
 (.seq (.reg [
   .seq ⟨some 4, .fa 0 (.t 2), none⟩,
   .seq ⟨some 5, .ld false 1 false (.t 4), none⟩,
   .seq ⟨some 6, .fa 1 (.t 1), none⟩,
   .seq ⟨some 7, .ld false 1 false (.t 6), none⟩,
   .seq ⟨some 8, .bin .eql 0 (.t 5) (.t 7), none⟩,
   .seq ⟨some 3, .mv true (.t 8), none⟩])
 (.ret))
def a186 : AFunc := ⟨2, 9, [.t 3], c186, false⟩
/-- headland/lang.bound -/
def c187 : ACode :=
 .seq (.reg [
   .seq ⟨some 2, .box 1 (.t 0), none⟩])
 (.seq (.reg [
   .seq ⟨some 8, .fa 0 (.t 2), none⟩,
   .seq ⟨some 9, .ld false 1 false (.t 8), none⟩,
   .seq ⟨some 10, .len false (.t 9), none⟩,
   .seq ⟨some 11, .bin .geq 0 (.t 10) (.c (.int .i64 1)), none⟩,
   .seq ⟨some 12, .mv false (.t 11), none⟩,
   .seq ⟨some 13, .fa 0 (.t 2), some (12, true)⟩,
   .seq ⟨some 14, .ld false 1 false (.t 13), some (12, true)⟩,
   .seq ⟨some 15, .len false (.t 14), some (12, true)⟩,
   .seq ⟨some 16, .bin .leq 0 (.t 15) (.c (.int .i64 400)), some (12, true)⟩,
   .seq ⟨some 17, .pick (.t 12) (.t 16) (.c (.bool false)), none⟩,
   .seq ⟨some 18, .call 64 [(.t 17)], none⟩])
 (.seq (.reg [
   .seq ⟨some 19, .fa 0 (.t 2), none⟩,
   .seq ⟨some 20, .ld false 1 false (.t 19), none⟩,
   .seq ⟨some 21, .len false (.t 20), none⟩,
   .seq ⟨some 22, .mv false (.c (.int .i64 0)), none⟩])
 (.blk 0
  (.loop (.seq (.reg [
    .seq ⟨some 23, .bin .lss 0 (.t 22) (.t 21), none⟩])
  (.seq (.cond (.t 23)
   (.nop)
   (.exit 0))
  (.seq (.blk 1
   (.seq (.reg [
     .seq ⟨some 24, .ia 1 (.t 20) (.t 22), none⟩,
     .seq ⟨some 25, .ld false 1 false (.t 24), none⟩,
     .seq ⟨some 5, .mv true (.t 25), none⟩])
   (.seq (.reg [
     .seq ⟨some 26, .mv false (.t 5), none⟩,
     .seq ⟨some 27, .len false (.t 26), none⟩,
     .seq ⟨some 28, .bin .geq 0 (.t 27) (.c (.int .i64 1)), none⟩,
     .seq ⟨some 29, .mv false (.t 28), none⟩,
     .seq ⟨some 30, .mv false (.t 5), some (29, true)⟩,
     .seq ⟨some 31, .len false (.t 30), some (29, true)⟩,
     .seq ⟨some 32, .bin .leq 0 (.t 31) (.c (.int .i64 96)), some (29, true)⟩,
     .seq ⟨some 33, .pick (.t 29) (.t 32) (.c (.bool false)), none⟩,
     .seq ⟨some 34, .call 64 [(.t 33)], none⟩])
   (.seq (.reg [
     .seq ⟨some 35, .mv false (.t 5), none⟩,
     .seq ⟨some 36, .len false (.t 35), none⟩,
     .seq ⟨some 37, .mv false (.c (.int .i64 0)), none⟩])
   (.blk 2
    (.loop (.seq (.reg [
      .seq ⟨some 38, .bin .lss 0 (.t 37) (.t 36), none⟩])
    (.seq (.cond (.t 38)
     (.nop)
     (.exit 2))
    (.seq (.blk 3
     (.seq (.reg [
       .seq ⟨some 39, .ia 3 (.t 35) (.t 37), none⟩,
       .seq ⟨some 40, .ld false 3 true (.t 39), none⟩,
       .seq ⟨some 7, .al [.slice .nil [], .int .i64 0, .int .i64 0], none⟩,
       .seq ⟨none, .st 3 (.t 7) (.t 40), none⟩])
     (.reg [
       .seq ⟨some 41, .fa 0 (.t 7), none⟩,
       .seq ⟨some 42, .ld false 2 true (.t 41), none⟩,
       .seq ⟨some 43, .mv false (.t 1), none⟩,
       .seq ⟨some 44, .call 66 [(.t 42), (.t 43)], none⟩,
       .seq ⟨some 45, .mv false (.t 44), none⟩,
       .seq ⟨some 46, .fa 2 (.t 7), some (45, true)⟩,
       .seq ⟨some 47, .ld false 1 false (.t 46), some (45, true)⟩,
       .seq ⟨some 48, .bin .geq 0 (.t 47) (.c (.int .i64 1)), some (45, true)⟩,
       .seq ⟨some 49, .pick (.t 45) (.t 48) (.c (.bool false)), none⟩,
       .seq ⟨some 50, .mv false (.t 49), none⟩,
       .seq ⟨some 51, .fa 2 (.t 7), some (50, true)⟩,
       .seq ⟨some 52, .ld false 1 false (.t 51), some (50, true)⟩,
       .seq ⟨some 53, .bin .leq 0 (.t 52) (.c (.int .i64 512)), some (50, true)⟩,
       .seq ⟨some 54, .pick (.t 50) (.t 53) (.c (.bool false)), none⟩,
       .seq ⟨some 55, .call 64 [(.t 54)], none⟩])))
    (.reg [
      .seq ⟨some 56, .bin .add 0 (.t 37) (.c (.int .i64 1)), none⟩,
      .seq ⟨some 37, .mv false (.t 56), none⟩]))))))))))
  (.reg [
    .seq ⟨some 57, .bin .add 0 (.t 22) (.c (.int .i64 1)), none⟩,
    .seq ⟨some 22, .mv false (.t 57), none⟩]))))))))
def a187 : AFunc := ⟨2, 58, [], c187, false⟩
/-- headland/lang.unset -/
def c188 : ACode :=
 .seq (.reg [
   .seq ⟨some 1, .box 2 (.t 0), none⟩,
   .seq ⟨some 2, .mv true (.c (.bool false)), none⟩])
 (.seq (.reg [
   .seq ⟨some 3, .fa 0 (.t 1), none⟩,
   .seq ⟨some 4, .ld false 1 false (.t 3), none⟩,
   .seq ⟨some 5, .bin .eql 0 (.t 4) (.c (.int .i64 0)), none⟩,
   .seq ⟨some 6, .mv false (.t 5), none⟩,
   .seq ⟨some 7, .fa 1 (.t 1), some (6, true)⟩,
   .seq ⟨some 8, .ld false 1 false (.t 7), some (6, true)⟩,
   .seq ⟨some 9, .len false (.t 8), some (6, true)⟩,
   .seq ⟨some 10, .bin .eql 0 (.t 9) (.c (.int .i64 0)), some (6, true)⟩,
   .seq ⟨some 11, .pick (.t 6) (.t 10) (.c (.bool false)), none⟩,
   .seq ⟨some 2, .mv true (.t 11), none⟩])
 (.ret))
def a188 : AFunc := ⟨1, 12, [.t 2], c188, false⟩
/-- headland/lang.plainRef -/
def c189 : ACode :=
 .seq (.reg [
   .seq ⟨some 1, .box 2 (.t 0), none⟩,
   .seq ⟨some 2, .mv true (.c (.bool false)), none⟩])
 (.seq (.reg [
   .seq ⟨some 3, .fa 0 (.t 1), none⟩,
   .seq ⟨some 4, .ld false 1 false (.t 3), none⟩,
   .seq ⟨some 5, .bin .eql 0 (.t 4) (.c (.int .i64 0)), none⟩,
   .seq ⟨some 6, .mv false (.t 5), none⟩,
   .seq ⟨some 7, .fa 1 (.t 1), some (6, true)⟩,
   .seq ⟨some 8, .ld false 1 false (.t 7), some (6, true)⟩,
   .seq ⟨some 9, .len false (.t 8), some (6, true)⟩,
   .seq ⟨some 10, .bin .eql 0 (.t 9) (.c (.int .i64 0)), some (6, true)⟩,
   .seq ⟨some 11, .pick (.t 6) (.t 10) (.c (.bool false)), none⟩,
   .seq ⟨some 2, .mv true (.t 11), none⟩])
 (.ret))
def a189 : AFunc := ⟨1, 12, [.t 2], c189, false⟩
/-- headland/lang.plainExpr -/
def c190 : ACode :=
 .seq (.reg [
   .seq ⟨some 1, .box 7 (.t 0), none⟩,
   .seq ⟨some 2, .mv true (.c (.bool false)), none⟩])
 (.seq (.reg [
   .seq ⟨some 3, .fa 0 (.t 1), none⟩,
   .seq ⟨some 4, .ld false 1 false (.t 3), none⟩,
   .seq ⟨some 5, .bin .eql 0 (.t 4) (.c (.int .i64 0)), none⟩,
   .seq ⟨some 6, .mv false (.t 5), none⟩,
   .seq ⟨some 7, .fa 1 (.t 1), some (6, true)⟩,
   .seq ⟨some 8, .ld false 1 false (.t 7), some (6, true)⟩,
   .seq ⟨some 9, .bin .eql 0 (.t 8) (.c (.int .i64 0)), some (6, true)⟩,
   .seq ⟨some 10, .pick (.t 6) (.t 9) (.c (.bool false)), none⟩,
   .seq ⟨some 11, .mv false (.t 10), none⟩,
   .seq ⟨some 12, .fa 2 (.t 1), some (11, true)⟩,
   .seq ⟨some 13, .ld false 2 true (.t 12), some (11, true)⟩,
   .seq ⟨some 14, .call 192 [(.t 13)], some (11, true)⟩,
   .seq ⟨some 15, .pick (.t 11) (.t 14) (.c (.bool false)), none⟩,
   .seq ⟨some 16, .mv false (.t 15), none⟩,
   .seq ⟨some 17, .fa 4 (.t 1), some (16, true)⟩,
   .seq ⟨some 18, .ld false 2 true (.t 17), some (16, true)⟩,
   .seq ⟨some 19, .call 189 [(.t 18)], some (16, true)⟩,
   .seq ⟨some 20, .pick (.t 16) (.t 19) (.c (.bool false)), none⟩,
   .seq ⟨some 21, .mv false (.t 20), none⟩,
   .seq ⟨some 22, .fa 6 (.t 1), some (21, true)⟩,
   .seq ⟨some 23, .ld false 1 false (.t 22), some (21, true)⟩,
   .seq ⟨some 24, .len false (.t 23), some (21, true)⟩,
   .seq ⟨some 25, .bin .eql 0 (.t 24) (.c (.int .i64 0)), some (21, true)⟩,
   .seq ⟨some 26, .pick (.t 21) (.t 25) (.c (.bool false)), none⟩,
   .seq ⟨some 2, .mv true (.t 26), none⟩])
 (.ret))
def a190 : AFunc := ⟨1, 27, [.t 2], c190, false⟩
/-- slices.IndexFunc[[]headland/api.Array,headland/api.Array] -/
def c191 : ACode :=
 .seq (.reg [
   .seq ⟨some 4, .mv true (.c (.int .i64 0)), none⟩])
 (.seq (.seq (.reg [
   .seq ⟨some 6, .mv false (.t 0), none⟩,
   .seq ⟨some 7, .len false (.t 6), none⟩,
   .seq ⟨some 8, .mv false (.c (.int .i64 0)), none⟩])
 (.blk 0
  (.loop (.seq (.reg [
    .seq ⟨some 9, .bin .lss 0 (.t 8) (.t 7), none⟩])
  (.seq (.cond (.t 9)
   (.nop)
   (.exit 0))
  (.seq (.blk 1
   (.seq (.reg [
     .seq ⟨some 10, .mv false (.t 8), none⟩,
     .seq ⟨some 5, .mv true (.t 10), none⟩])
   (.seq (.reg [
     .seq ⟨some 11, .mv false (.t 1), none⟩,
     .seq ⟨some 12, .mv false (.t 0), none⟩,
     .seq ⟨some 13, .mv false (.t 5), none⟩,
     .seq ⟨some 14, .ia 2 (.t 12) (.t 13), none⟩,
     .seq ⟨some 15, .ld false 2 true (.t 14), none⟩,
     .seq ⟨some 16, .callv (.t 11) [(.t 15)], none⟩])
   (.cond (.t 16)
    (.seq (.reg [
      .seq ⟨some 17, .mv true (.t 5), none⟩,
      .seq ⟨some 4, .mv true (.t 17), none⟩])
    (.ret))
    (.nop)))))
  (.reg [
    .seq ⟨some 18, .bin .add 0 (.t 8) (.c (.int .i64 1)), none⟩,
    .seq ⟨some 8, .mv false (.t 18), none⟩])))))))
 (.seq (.reg [
   .seq ⟨some 4, .mv true (.c (.int .i64 (-1))), none⟩])
 (.ret)))
def a191 : AFunc := ⟨2, 19, [.t 4], c191, false⟩
/-- headland/lang.plainLin -/
def c192 : ACode :=
 .seq (.reg [
   .seq ⟨some 1, .box 2 (.t 0), none⟩,
   .seq ⟨some 2, .mv true (.c (.bool false)), none⟩])
 (.seq (.reg [
   .seq ⟨some 3, .fa 0 (.t 1), none⟩,
   .seq ⟨some 4, .ld false 1 false (.t 3), none⟩,
   .seq ⟨some 5, .len false (.t 4), none⟩,
   .seq ⟨some 6, .bin .eql 0 (.t 5) (.c (.int .i64 0)), none⟩,
   .seq ⟨some 7, .mv false (.t 6), none⟩,
   .seq ⟨some 8, .fa 1 (.t 1), some (7, true)⟩,
   .seq ⟨some 9, .ld false 1 false (.t 8), some (7, true)⟩,
   .seq ⟨some 10, .bin .eql 0 (.t 9) (.c (.int .i64 0)), some (7, true)⟩,
   .seq ⟨some 11, .pick (.t 7) (.t 10) (.c (.bool false)), none⟩,
   .seq ⟨some 2, .mv true (.t 11), none⟩])
 (.ret))
def a192 : AFunc := ⟨1, 12, [.t 2], c192, false⟩
/-- (headland/lang.test).check -/
def c193 : ACode :=
 .seq (.reg [
   .seq ⟨some 3, .box 19 (.t 0), none⟩])
 (.seq (.reg [
   .seq ⟨some 7, .fa 0 (.t 3), none⟩,
   .seq ⟨some 8, .ld false 19 true (.t 7), none⟩,
   .seq ⟨some 6, .al [.int .i64 0, .str ⟨#[]⟩, .slice .nil [], .slice .nil [], .int .i64 0, .int .i64 0, .int .i64 0, .slice .nil [], .int .i64 0, .slice .nil [], .int .i64 0, .int .i64 0, .slice .nil [], .int .i64 0, .int .i64 0, .slice .nil [], .slice .nil [], .slice .nil [], .slice .nil []], none⟩,
   .seq ⟨none, .st 19 (.t 6) (.t 8), none⟩])
 (.seq (.reg [
   .seq ⟨some 9, .ld false 19 true (.t 6), none⟩,
   .seq ⟨some 10, .call 194 [(.t 9)], none⟩,
   .seq ⟨some 11, .mv false (.t 10), none⟩,
   .seq ⟨some 12, .fa 8 (.t 6), some (11, true)⟩,
   .seq ⟨some 13, .ld false 2 true (.t 12), some (11, true)⟩,
   .seq ⟨some 14, .call 189 [(.t 13)], some (11, true)⟩,
   .seq ⟨some 15, .pick (.t 11) (.t 14) (.c (.bool false)), none⟩,
   .seq ⟨some 16, .mv false (.t 15), none⟩,
   .seq ⟨some 17, .fa 10 (.t 6), some (16, true)⟩,
   .seq ⟨some 18, .ld false 7 true (.t 17), some (16, true)⟩,
   .seq ⟨some 19, .call 190 [(.t 18)], some (16, true)⟩,
   .seq ⟨some 20, .pick (.t 16) (.t 19) (.c (.bool false)), none⟩,
   .seq ⟨some 21, .call 64 [(.t 20)], none⟩])
 (.seq (.reg [
   .seq ⟨some 22, .fa 6 (.t 6), none⟩,
   .seq ⟨some 23, .ld false 2 true (.t 22), none⟩,
   .seq ⟨some 24, .call 142 [(.t 23)], none⟩,
   .seq ⟨some 25, .mv false (.t 24), none⟩,
   .seq ⟨some 26, .fa 6 (.t 6), some (25, true)⟩,
   .seq ⟨some 27, .fa 0 (.t 26), some (25, true)⟩,
   .seq ⟨some 28, .ld false 1 false (.t 27), some (25, true)⟩,
   .seq ⟨some 29, .mv false (.t 2), some (25, true)⟩,
   .seq ⟨some 30, .len false (.t 29), some (25, true)⟩,
   .seq ⟨some 31, .bin .eql 0 (.t 28) (.t 30), some (25, true)⟩,
   .seq ⟨some 32, .pick (.t 25) (.t 31) (.c (.bool false)), none⟩,
   .seq ⟨some 33, .call 64 [(.t 32)], none⟩])
 (.seq (.reg [
   .seq ⟨some 34, .mv false (.t 1), none⟩,
   .seq ⟨some 35, .fa 17 (.t 6), none⟩,
   .seq ⟨some 36, .ld false 1 false (.t 35), none⟩,
   .seq ⟨some 37, .mv false (.t 2), none⟩,
   .seq ⟨some 38, .call 31 [(.t 34), (.t 36), (.t 37)], none⟩])
 (.reg [
   .seq ⟨some 39, .mv false (.t 1), none⟩,
   .seq ⟨some 40, .fa 18 (.t 6), none⟩,
   .seq ⟨some 41, .ld false 1 false (.t 40), none⟩,
   .seq ⟨some 42, .mv false (.t 2), none⟩,
   .seq ⟨some 43, .call 31 [(.t 39), (.t 41), (.t 42)], none⟩])))))
def a193 : AFunc := ⟨3, 44, [], c193, false⟩
/-- headland/lang.blank -/
def c194 : ACode :=
 .seq (.reg [
   .seq ⟨some 1, .box 19 (.t 0), none⟩,
   .seq ⟨some 2, .mv true (.c (.bool false)), none⟩])
 (.seq (.reg [
   .seq ⟨some 3, .fa 1 (.t 1), none⟩,
   .seq ⟨some 4, .ld false 1 false (.t 3), none⟩,
   .seq ⟨some 5, .bin .eql 0 (.t 4) (.c (.str ⟨#[]⟩)), none⟩,
   .seq ⟨some 6, .mv false (.t 5), none⟩,
   .seq ⟨some 7, .fa 2 (.t 1), some (6, true)⟩,
   .seq ⟨some 8, .fa 0 (.t 7), some (6, true)⟩,
   .seq ⟨some 9, .ld false 1 false (.t 8), some (6, true)⟩,
   .seq ⟨some 10, .len false (.t 9), some (6, true)⟩,
   .seq ⟨some 11, .bin .eql 0 (.t 10) (.c (.int .i64 0)), some (6, true)⟩,
   .seq ⟨some 12, .pick (.t 6) (.t 11) (.c (.bool false)), none⟩,
   .seq ⟨some 13, .mv false (.t 12), none⟩,
   .seq ⟨some 14, .fa 3 (.t 1), some (13, true)⟩,
   .seq ⟨some 15, .fa 0 (.t 14), some (13, true)⟩,
   .seq ⟨some 16, .ld false 1 false (.t 15), some (13, true)⟩,
   .seq ⟨some 17, .len false (.t 16), some (13, true)⟩,
   .seq ⟨some 18, .bin .eql 0 (.t 17) (.c (.int .i64 0)), some (13, true)⟩,
   .seq ⟨some 19, .pick (.t 13) (.t 18) (.c (.bool false)), none⟩,
   .seq ⟨some 20, .mv false (.t 19), none⟩,
   .seq ⟨some 21, .fa 4 (.t 1), some (20, true)⟩,
   .seq ⟨some 22, .ld false 1 false (.t 21), some (20, true)⟩,
   .seq ⟨some 23, .bin .eql 0 (.t 22) (.c (.int .i64 0)), some (20, true)⟩,
   .seq ⟨some 24, .pick (.t 20) (.t 23) (.c (.bool false)), none⟩,
   .seq ⟨some 25, .mv false (.t 24), none⟩,
   .seq ⟨some 26, .fa 5 (.t 1), some (25, true)⟩,
   .seq ⟨some 27, .ld false 1 false (.t 26), some (25, true)⟩,
   .seq ⟨some 28, .bin .eql 0 (.t 27) (.c (.int .i64 0)), some (25, true)⟩,
   .seq ⟨some 29, .pick (.t 25) (.t 28) (.c (.bool false)), none⟩,
   .seq ⟨some 2, .mv true (.t 29), none⟩])
 (.ret))
def a194 : AFunc := ⟨1, 30, [.t 2], c194, false⟩
/-- (headland/lang.assign).check -/
def c195 : ACode :=
 .seq (.reg [
   .seq ⟨some 3, .box 19 (.t 0), none⟩])
 (.seq (.reg [
   .seq ⟨some 8, .fa 0 (.t 3), none⟩,
   .seq ⟨some 9, .ld false 19 true (.t 8), none⟩,
   .seq ⟨some 6, .al [.int .i64 0, .str ⟨#[]⟩, .slice .nil [], .slice .nil [], .int .i64 0, .int .i64 0, .int .i64 0, .slice .nil [], .int .i64 0, .slice .nil [], .int .i64 0, .int .i64 0, .slice .nil [], .int .i64 0, .int .i64 0, .slice .nil [], .slice .nil [], .slice .nil [], .slice .nil []], none⟩,
   .seq ⟨none, .st 19 (.t 6) (.t 9), none⟩])
 (.seq (.reg [
   .seq ⟨some 10, .ld false 19 true (.t 6), none⟩,
   .seq ⟨some 11, .call 194 [(.t 10)], none⟩,
   .seq ⟨some 12, .mv false (.t 11), none⟩,
   .seq ⟨some 13, .fa 6 (.t 6), some (12, true)⟩,
   .seq ⟨some 14, .ld false 2 true (.t 13), some (12, true)⟩,
   .seq ⟨some 15, .call 188 [(.t 14)], some (12, true)⟩,
   .seq ⟨some 16, .pick (.t 12) (.t 15) (.c (.bool false)), none⟩,
   .seq ⟨some 17, .mv false (.t 16), none⟩,
   .seq ⟨some 18, .fa 17 (.t 6), some (17, true)⟩,
   .seq ⟨some 19, .ld false 1 false (.t 18), some (17, true)⟩,
   .seq ⟨some 20, .len false (.t 19), some (17, true)⟩,
   .seq ⟨some 21, .bin .eql 0 (.t 20) (.c (.int .i64 0)), some (17, true)⟩,
   .seq ⟨some 22, .pick (.t 17) (.t 21) (.c (.bool false)), none⟩,
   .seq ⟨some 23, .mv false (.t 22), none⟩,
   .seq ⟨some 24, .fa 18 (.t 6), some (23, true)⟩,
   .seq ⟨some 25, .ld false 1 false (.t 24), some (23, true)⟩,
   .seq ⟨some 26, .len false (.t 25), some (23, true)⟩,
   .seq ⟨some 27, .bin .eql 0 (.t 26) (.c (.int .i64 0)), some (23, true)⟩,
   .seq ⟨some 28, .pick (.t 23) (.t 27) (.c (.bool false)), none⟩,
   .seq ⟨some 29, .call 64 [(.t 28)], none⟩])
 (.seq (.reg [
   .seq ⟨some 30, .mv false (.t 1), none⟩,
   .seq ⟨some 31, .fa 8 (.t 6), none⟩,
   .seq ⟨some 32, .ld false 2 true (.t 31), none⟩,
   .seq ⟨some 33, .mv false (.t 2), none⟩,
   .seq ⟨some 34, .len false (.t 33), none⟩,
   .seq ⟨some 35, .call 196 [(.t 30), (.t 32), (.t 34)], none⟩])
 (.seq (.reg [
   .seq ⟨some 7, .al [.int .i64 0], none⟩,
   .seq ⟨none, .st 1 (.t 7) (.c (.int .i64 0)), none⟩])
 (.reg [
   .seq ⟨some 36, .mv false (.t 1), none⟩,
   .seq ⟨some 37, .fa 10 (.t 6), none⟩,
   .seq ⟨some 38, .ld false 7 true (.t 37), none⟩,
   .seq ⟨some 39, .mv false (.t 2), none⟩,
   .seq ⟨some 40, .len false (.t 39), none⟩,
   .seq ⟨some 41, .call 197 [(.t 36), (.t 38), (.t 40), (.t 7)], none⟩])))))
def a195 : AFunc := ⟨3, 42, [], c195, false⟩
/-- (headland/lang.checker).cell -/
def c196 : ACode :=
 .seq (.reg [
   .seq ⟨some 4, .box 2 (.t 1), none⟩])
 (.seq (.reg [
   .seq ⟨some 8, .fa 0 (.t 4), none⟩,
   .seq ⟨some 9, .ld false 1 false (.t 8), none⟩,
   .seq ⟨some 10, .bin .geq 0 (.t 9) (.c (.int .i64 0)), none⟩,
   .seq ⟨some 11, .mv false (.t 10), none⟩,
   .free [⟨some 12, .fa 0 (.t 4), some (11, true)⟩, ⟨some 13, .ld false 1 false (.t 12), some (11, true)⟩, ⟨some 14, .mv false (.t 0), some (11, true)⟩, ⟨some 15, .nc (.t 14), some (11, true)⟩, ⟨some 16, .fa 0 (.t 15), some (11, true)⟩, ⟨some 17, .fa 1 (.t 16), some (11, true)⟩, ⟨some 18, .ld false 1 false (.t 17), some (11, true)⟩, ⟨some 19, .len false (.t 18), some (11, true)⟩],
   .seq ⟨some 20, .bin .lss 0 (.t 13) (.t 19), some (11, true)⟩,
   .seq ⟨some 21, .pick (.t 11) (.t 20) (.c (.bool false)), none⟩,
   .seq ⟨some 22, .mv false (.t 21), none⟩,
   .free [⟨some 23, .fa 1 (.t 4), some (22, true)⟩, ⟨some 24, .ld false 1 false (.t 23), some (22, true)⟩, ⟨some 25, .len false (.t 24), some (22, true)⟩, ⟨some 26, .mv false (.t 0), some (22, true)⟩, ⟨some 27, .nc (.t 26), some (22, true)⟩, ⟨some 28, .fa 0 (.t 27), some (22, true)⟩, ⟨some 29, .fa 1 (.t 28), some (22, true)⟩, ⟨some 30, .ld false 1 false (.t 29), some (22, true)⟩, ⟨some 31, .fa 0 (.t 4), some (22, true)⟩, ⟨some 32, .ld false 1 false (.t 31), some (22, true)⟩, ⟨some 33, .ia 2 (.t 30) (.t 32), some (22, true)⟩, ⟨some 34, .fa 1 (.t 33), some (22, true)⟩, ⟨some 35, .ld false 1 false (.t 34), some (22, true)⟩, ⟨some 36, .len false (.t 35), some (22, true)⟩],
   .seq ⟨some 37, .bin .eql 0 (.t 25) (.t 36), some (22, true)⟩,
   .seq ⟨some 38, .pick (.t 22) (.t 37) (.c (.bool false)), none⟩,
   .seq ⟨some 39, .call 64 [(.t 38)], none⟩])
 (.seq (.reg [
   .seq ⟨some 40, .fa 1 (.t 4), none⟩,
   .seq ⟨some 41, .ld false 1 false (.t 40), none⟩,
   .seq ⟨some 42, .len false (.t 41), none⟩,
   .seq ⟨some 43, .mv false (.c (.int .i64 0)), none⟩])
 (.blk 0
  (.loop (.seq (.reg [
    .seq ⟨some 44, .bin .lss 0 (.t 43) (.t 42), none⟩])
  (.seq (.cond (.t 44)
   (.nop)
   (.exit 0))
  (.seq (.blk 1
   (.seq (.reg [
     .seq ⟨some 45, .ia 2 (.t 41) (.t 43), none⟩,
     .seq ⟨some 46, .ld false 2 true (.t 45), none⟩,
     .seq ⟨some 7, .al [.slice .nil [], .int .i64 0], none⟩,
     .seq ⟨none, .st 2 (.t 7) (.t 46), none⟩])
   (.reg [
     .seq ⟨some 47, .ld false 2 true (.t 7), none⟩,
     .seq ⟨some 48, .mv false (.t 2), none⟩,
     .seq ⟨some 49, .call 66 [(.t 47), (.t 48)], none⟩,
     .seq ⟨some 50, .call 64 [(.t 49)], none⟩])))
  (.reg [
    .seq ⟨some 51, .bin .add 0 (.t 43) (.c (.int .i64 1)), none⟩,
    .seq ⟨some 43, .mv false (.t 51), none⟩]))))))))
def a196 : AFunc := ⟨3, 52, [], c196, false⟩
/-- (headland/lang.checker).node -/
def c197 : ACode :=
 .seq (.reg [
   .seq ⟨some 5, .box 7 (.t 1), none⟩])
 (.seq (.reg [
   .seq ⟨some 8, .mv false (.t 3), none⟩,
   .seq ⟨some 9, .nc (.t 8), none⟩,
   .seq ⟨some 10, .ld false 1 false (.t 9), none⟩,
   .seq ⟨some 11, .bin .add 0 (.t 10) (.c (.int .i64 1)), none⟩,
   .seq ⟨some 12, .nc (.t 8), none⟩,
   .seq ⟨none, .st 1 (.t 12) (.t 11), none⟩])
 (.seq (.reg [
   .seq ⟨some 13, .mv false (.t 3), none⟩,
   .seq ⟨some 14, .nc (.t 13), none⟩,
   .seq ⟨some 15, .ld false 1 false (.t 14), none⟩,
   .seq ⟨some 16, .bin .leq 0 (.t 15) (.c (.int .i64 64)), none⟩,
   .seq ⟨some 17, .mv false (.t 16), none⟩,
   .seq ⟨some 18, .fa 0 (.t 5), some (17, true)⟩,
   .seq ⟨some 19, .ld false 1 false (.t 18), some (17, true)⟩,
   .seq ⟨some 20, .bin .geq 0 (.t 19) (.c (.int .i64 0)), some (17, true)⟩,
   .seq ⟨some 21, .pick (.t 17) (.t 20) (.c (.bool false)), none⟩,
   .seq ⟨some 22, .mv false (.t 21), none⟩,
   .seq ⟨some 23, .fa 0 (.t 5), some (22, true)⟩,
   .seq ⟨some 24, .ld false 1 false (.t 23), some (22, true)⟩,
   .seq ⟨some 25, .bin .leq 0 (.t 24) (.c (.int .i64 7)), some (22, true)⟩,
   .seq ⟨some 26, .pick (.t 22) (.t 25) (.c (.bool false)), none⟩,
   .seq ⟨some 27, .call 64 [(.t 26)], none⟩])
 (.seq (.reg [
   .seq ⟨some 28, .fa 0 (.t 5), none⟩,
   .seq ⟨some 29, .ld false 1 false (.t 28), none⟩,
   .seq ⟨some 30, .bin .eql 0 (.t 29) (.c (.int .i64 0)), none⟩,
   .seq ⟨some 31, .mv false (.t 30), none⟩,
   .seq ⟨some 32, .fa 1 (.t 5), some (31, false)⟩,
   .seq ⟨some 33, .ld false 1 false (.t 32), some (31, false)⟩,
   .seq ⟨some 34, .bin .eql 0 (.t 33) (.c (.int .i64 0)), some (31, false)⟩,
   .seq ⟨some 35, .pick (.t 31) (.c (.bool true)) (.t 34), none⟩,
   .seq ⟨some 36, .call 64 [(.t 35)], none⟩])
 (.seq (.reg [
   .seq ⟨some 37, .fa 0 (.t 5), none⟩,
   .seq ⟨some 38, .ld false 1 false (.t 37), none⟩,
   .seq ⟨some 39, .bin .eql 0 (.t 38) (.c (.int .i64 1)), none⟩,
   .seq ⟨some 40, .mv false (.t 39), none⟩,
   .seq ⟨some 41, .fa 2 (.t 5), some (40, false)⟩,
   .seq ⟨some 42, .ld false 2 true (.t 41), some (40, false)⟩,
   .seq ⟨some 43, .call 192 [(.t 42)], some (40, false)⟩,
   .seq ⟨some 44, .pick (.t 40) (.c (.bool true)) (.t 43), none⟩,
   .seq ⟨some 45, .call 64 [(.t 44)], none⟩])
 (.seq (.reg [
   .seq ⟨some 46, .fa 0 (.t 5), none⟩,
   .seq ⟨some 47, .ld false 1 false (.t 46), none⟩,
   .seq ⟨some 48, .bin .eql 0 (.t 47) (.c (.int .i64 2)), none⟩,
   .seq ⟨some 49, .mv false (.t 48), none⟩,
   .seq ⟨some 50, .fa 4 (.t 5), some (49, false)⟩,
   .seq ⟨some 51, .ld false 2 true (.t 50), some (49, false)⟩,
   .seq ⟨some 52, .call 189 [(.t 51)], some (49, false)⟩,
   .seq ⟨some 53, .pick (.t 49) (.c (.bool true)) (.t 52), none⟩,
   .seq ⟨some 54, .call 64 [(.t 53)], none⟩])
 (.seq (.reg [
   .seq ⟨some 55, .fa 0 (.t 5), none⟩,
   .seq ⟨some 56, .ld false 1 false (.t 55), none⟩])
 (.blk 0
  (.seq (.reg [
    .seq ⟨some 79, .bin .eql 0 (.t 56) (.c (.int .i64 0)), none⟩,
    .seq ⟨some 78, .mv true (.t 79), none⟩])
  (.cond (.t 78)
   (.reg [
     .seq ⟨some 80, .fa 1 (.t 5), none⟩,
     .seq ⟨some 81, .ld false 1 false (.t 80), none⟩,
     .seq ⟨some 82, .bin .geq 0 (.t 81) (.c (.int .i64 (-2147483648))), none⟩,
     .seq ⟨some 83, .mv false (.t 82), none⟩,
     .seq ⟨some 84, .fa 1 (.t 5), some (83, true)⟩,
     .seq ⟨some 85, .ld false 1 false (.t 84), some (83, true)⟩,
     .seq ⟨some 86, .bin .lss 0 (.t 85) (.c (.int .i64 2147483648)), some (83, true)⟩,
     .seq ⟨some 87, .pick (.t 83) (.t 86) (.c (.bool false)), none⟩,
     .seq ⟨some 88, .mv false (.t 87), none⟩,
     .seq ⟨some 89, .fa 6 (.t 5), some (88, true)⟩,
     .seq ⟨some 90, .ld false 1 false (.t 89), some (88, true)⟩,
     .seq ⟨some 91, .len false (.t 90), some (88, true)⟩,
     .seq ⟨some 92, .bin .eql 0 (.t 91) (.c (.int .i64 0)), some (88, true)⟩,
     .seq ⟨some 93, .pick (.t 88) (.t 92) (.c (.bool false)), none⟩,
     .seq ⟨some 94, .call 64 [(.t 93)], none⟩])
   (.seq (.reg [
     .seq ⟨some 96, .bin .eql 0 (.t 56) (.c (.int .i64 1)), none⟩,
     .seq ⟨some 95, .mv true (.t 96), none⟩])
   (.cond (.t 95)
    (.reg [
      .seq ⟨some 97, .fa 2 (.t 5), none⟩,
      .seq ⟨some 98, .ld false 2 true (.t 97), none⟩,
      .seq ⟨some 99, .mv false (.t 2), none⟩,
      .seq ⟨some 100, .call 66 [(.t 98), (.t 99)], none⟩,
      .seq ⟨some 101, .mv false (.t 100), none⟩,
      .seq ⟨some 102, .fa 6 (.t 5), some (101, true)⟩,
      .seq ⟨some 103, .ld false 1 false (.t 102), some (101, true)⟩,
      .seq ⟨some 104, .len false (.t 103), some (101, true)⟩,
      .seq ⟨some 105, .bin .eql 0 (.t 104) (.c (.int .i64 0)), some (101, true)⟩,
      .seq ⟨some 106, .pick (.t 101) (.t 105) (.c (.bool false)), none⟩,
      .seq ⟨some 107, .call 64 [(.t 106)], none⟩])
    (.seq (.reg [
      .seq ⟨some 109, .bin .eql 0 (.t 56) (.c (.int .i64 2)), none⟩,
      .seq ⟨some 108, .mv true (.t 109), none⟩])
    (.cond (.t 108)
     (.seq (.reg [
       .seq ⟨some 110, .fa 6 (.t 5), none⟩,
       .seq ⟨some 111, .ld false 1 false (.t 110), none⟩,
       .seq ⟨some 112, .len false (.t 111), none⟩,
       .seq ⟨some 113, .bin .eql 0 (.t 112) (.c (.int .i64 0)), none⟩,
       .seq ⟨some 114, .call 64 [(.t 113)], none⟩])
     (.reg [
       .seq ⟨some 115, .mv false (.t 0), none⟩,
       .seq ⟨some 116, .fa 4 (.t 5), none⟩,
       .seq ⟨some 117, .ld false 2 true (.t 116), none⟩,
       .seq ⟨some 118, .mv false (.t 2), none⟩,
       .seq ⟨some 119, .call 196 [(.t 115), (.t 117), (.t 118)], none⟩]))
     (.seq (.reg [
       .seq ⟨some 57, .fa 6 (.t 5), none⟩,
       .seq ⟨some 58, .ld false 1 false (.t 57), none⟩,
       .seq ⟨some 59, .len false (.t 58), none⟩,
       .seq ⟨some 60, .bin .eql 0 (.t 59) (.c (.int .i64 2)), none⟩,
       .seq ⟨some 61, .call 64 [(.t 60)], none⟩])
     (.seq (.reg [
       .seq ⟨some 62, .mv false (.t 0), none⟩,
       .seq ⟨some 63, .fa 6 (.t 5), none⟩,
       .seq ⟨some 64, .ld false 1 false (.t 63), none⟩,
       .seq ⟨some 65, .ia 7 (.t 64) (.c (.int .i64 0)), none⟩,
       .seq ⟨some 66, .ld false 7 true (.t 65), none⟩,
       .seq ⟨some 67, .mv false (.t 2), none⟩,
       .seq ⟨some 68, .mv false (.t 3), none⟩,
       .seq ⟨some 69, .call 197 [(.t 62), (.t 66), (.t 67), (.t 68)], none⟩])
     (.reg [
       .seq ⟨some 70, .mv false (.t 0), none⟩,
       .seq ⟨some 71, .fa 6 (.t 5), none⟩,
       .seq ⟨some 72, .ld false 1 false (.t 71), none⟩,
       .seq ⟨some 73, .ia 7 (.t 72) (.c (.int .i64 1)), none⟩,
       .seq ⟨some 74, .ld false 7 true (.t 73), none⟩,
       .seq ⟨some 75, .mv false (.t 2), none⟩,
       .seq ⟨some 76, .mv false (.t 3), none⟩,
       .seq ⟨some 77, .call 197 [(.t 70), (.t 74), (.t 75), (.t 76)], none⟩]))))))))))))))))
def a197 : AFunc := ⟨4, 120, [], c197, false⟩
/-- headland/lang.Check, ahead of its defer -/
def pre9 : ACode :=
 .reg [
   .seq ⟨some 1, .box 3 (.t 0), none⟩,
   .seq ⟨some 2, .al [.int .i64 0], none⟩]
/-- headland/lang.Check, behind its defer -/
def post9 : ACode :=
 .seq (.reg [
   .seq ⟨some 5, .ld false 3 true (.t 1), none⟩,
   .seq ⟨some 6, .bld [.slice .nil [], .slice .nil [], .slice .nil [], .int .i64 0] [(0, 3, (.t 5))], none⟩,
   .seq ⟨some 3, .al [.slice .nil [], .slice .nil [], .slice .nil [], .int .i64 0], none⟩,
   .seq ⟨none, .st 4 (.t 3) (.t 6), none⟩])
 (.seq (.reg [
   .seq ⟨some 7, .call 30 [(.t 3)], none⟩])
 (.seq (.reg [
   .free [⟨some 8, .fa 2 (.t 1), none⟩, ⟨some 9, .ld false 1 false (.t 8), none⟩, ⟨some 10, .fa 0 (.t 1), none⟩, ⟨some 11, .ld false 1 false (.t 10), none⟩, ⟨some 12, .call 32 [(.t 11)], none⟩],
   .seq ⟨some 13, .call 31 [(.t 3), (.t 9), (.t 12)], none⟩])
 (.seq (.reg [
   .seq ⟨none, .st 1 (.t 2) (.c (.int .i64 0)), none⟩])
 (.ret))))

def fnTab : List (Nat × AFunc) := [(4, a4), (8, a8), (11, a11), (12, a12), (13, a13), (14, a14), (15, a15), (16, a16), (17, a17), (19, a19), (28, a28), (30, a30), (31, a31), (32, a32), (34, a34), (35, a35), (36, a36), (37, a37), (38, a38), (39, a39), (40, a40), (41, a41), (42, a42), (43, a43), (44, a44), (45, a45), (46, a46), (52, a52), (55, a55), (63, a63), (64, a64), (65, a65), (66, a66), (67, a67), (68, a68), (69, a69), (70, a70), (72, a72), (73, a73), (74, a74), (75, a75), (76, a76), (77, a77), (78, a78), (79, a79), (80, a80), (81, a81), (82, a82), (83, a83), (88, a88), (96, a96), (97, a97), (98, a98), (99, a99), (100, a100), (101, a101), (102, a102), (104, a104), (126, a126), (127, a127), (128, a128), (129, a129), (130, a130), (131, a131), (132, a132), (133, a133), (134, a134), (135, a135), (136, a136), (137, a137), (138, a138), (142, a142), (150, a150), (151, a151), (152, a152), (156, a156), (159, a159), (184, a184), (185, a185), (186, a186), (187, a187), (188, a188), (189, a189), (190, a190), (191, a191), (192, a192), (193, a193), (194, a194), (195, a195), (196, a196), (197, a197)]

end AM
end Go.Proofs.Ytimfbnojmdnlnaa
