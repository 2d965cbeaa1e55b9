/- Functions of the program as the interpreter reads them, each tied to the program: written by a program. -/
import Derived.Test.YtohmaikcmaapjaaGreatNBTy
namespace Go.Proofs.YtohmaikcmaapjaaGreat.LI
open Go.Proofs
set_option maxRecDepth 100000
section
variable {I S : Type}
abbrev vi (D : Dom I S) (n : Nat) : LV I S := .int .i64 (D.ofInt (.ofNat n))
abbrev ci (D : Dom I S) (n : Nat) : LA I S := .const (.int .i64 (D.ofInt (.ofNat n)))
abbrev mv (a b : Nat) : LItem I S := ⟨⟨some a, none, .p (.move (.tmp b))⟩, []⟩
abbrev on (d : Nat) (x : LOp I S) : LItem I S := ⟨⟨some d, none, x⟩, []⟩
noncomputable def lf3 (D : Dom I S) : LFunc I S := ⟨133, [.tmp 6], .seq (.region [
 (on 5 (.a (.box (.tmp 2)))), (on 6 (.p (.move (.const (.bool false)))))]) (.seq (.seq (.region [
 (on 25 (.call (.const (.func 4 [] [])) [])), (on 26 (.p (.un .not (.tmp 25))))]) (.cond (.tmp 26) (.seq (.region [
 (on 6 (.p (.move (.const (.bool false)))))]) (.ret)) (.skip))) (.seq (.region [
 (on 28 (.call (.const (.func 5 [] [])) [(ci D 60)])), (mv 27 28), (on 29 (.p (.extract 0 (.tmp 27)))), (on 30 (.p (.extract 1 (.tmp 27)))), (mv 7 29), (mv 8 30)]) (.seq (.region [
 (mv 32 7), (on 33 (.call (.const (.func 6 [] [])) [(.tmp 32), (ci D 1), (ci D 2)])), (mv 31 33), (on 34 (.p (.extract 0 (.tmp 31)))), (on 35 (.p (.extract 1 (.tmp 31)))), (on 36 (.p (.extract 2 (.tmp 31)))), (mv 9 34), (mv 10 35), (mv 11 36)]) (.seq (.seq (.region [
 (mv 37 11), (on 38 (.call (.const (.func 7 [] [])) [(.tmp 37)])), (on 39 (.p (.bin .neq (.tmp 38) (ci D 0)))), (mv 40 39), ⟨⟨some 41, some (some 40, false), .p (.move (.tmp 9))⟩, []⟩,
 ⟨⟨some 42, some (some 40, false), .r (.eqRef .ptr false (.tmp 41) (.const .nilp))⟩, []⟩, (on 43 (.p (.pick (.tmp 40) (.const (.bool true)) (.tmp 42)))), (mv 44 43), ⟨⟨some 45, some (some 44, false), .r (.load true 4 (.tmp 5))⟩, []⟩,
 ⟨⟨some 46, some (some 44, false), .call (.const (.func 8 [] [])) [(.tmp 45)]⟩, []⟩,
 ⟨⟨some 47, some (some 44, false), .p (.un .not (.tmp 46))⟩, []⟩, (on 48 (.p (.pick (.tmp 44) (.const (.bool true)) (.tmp 47))))]) (.cond (.tmp 48) (.seq (.region [
 (mv 49 11), (on 50 (.call (.const (.func 7 [] [])) [(.tmp 49)])), (on 51 (.p (.bin .eql (.tmp 50) (ci D 0)))), (mv 52 51), ⟨⟨some 53, some (some 52, true), .p (.move (.tmp 9))⟩, []⟩,
 ⟨⟨some 54, some (some 52, true), .r (.eqRef .ptr true (.tmp 53) (.const .nilp))⟩, []⟩, (on 55 (.p (.pick (.tmp 52) (.tmp 54) (.const (.bool false))))), (mv 6 55)]) (.ret)) (.skip))) (.seq (.region [
 (mv 56 0), (on 57 (.p (.bin .and (.tmp 56) (ci D 255)))), (on 58 (.p (.bin .add (ci D 1) (.tmp 57)))), (mv 59 0), (on 60 (.p (.bin .and (.tmp 59) (ci D 1023)))), (on 61 (.call (.const (.func 9 [] [])) [(.tmp 58), (ci D 4294967295), (.tmp 60)])), (on 12 (.a (.box (.const (.agg [(vi D 0), (vi D 0), .nils]))))), ⟨⟨none, none, .e (.store 3 (.tmp 12) (.tmp 61))⟩, []⟩]) (.seq (.region [
 (on 62 (.p (.build [(vi D 0), (vi D 0)] [(1, 1, (ci D 7))]))), (on 13 (.a (.box (.const (.agg [(vi D 0), (vi D 0)]))))), ⟨⟨none, none, .e (.store 2 (.tmp 13) (.tmp 62))⟩, []⟩]) (.seq (.region [
 (on 63 (.r (.load true 4 (.tmp 5)))), (on 64 (.p (.build [(vi D 0), (vi D 0), (vi D 0), (vi D 0), (vi D 0), (vi D 0), (.bool false), (vi D 0), (vi D 0), (.bool false), (vi D 0), (vi D 0), (vi D 0), (vi D 0), .nils, .nils] [(0, 1, (ci D 5)), (2, 1, (ci D 1)), (7, 1, (ci D 3)), (10, 4, (.tmp 63))]))), (on 14 (.a (.box (.const (.agg [(vi D 0), (vi D 0), (vi D 0), (vi D 0), (vi D 0), (vi D 0), (.bool false), (vi D 0), (vi D 0), (.bool false), (vi D 0), (vi D 0), (vi D 0), (vi D 0), .nils, .nils]))))), ⟨⟨none, none, .e (.store 16 (.tmp 14) (.tmp 64))⟩, []⟩]) (.seq (.region [
 (mv 65 9), (on 66 (.r (.load true 16 (.tmp 14)))), (on 67 (.call (.const (.func 10 [] [])) [(.tmp 65), (.tmp 66)])), (mv 15 67)]) (.seq (.region [
 (mv 68 9), (on 69 (.r (.load true 2 (.tmp 13)))), (on 70 (.r (.load true 3 (.tmp 12)))), (on 71 (.p (.build [(vi D 0), (vi D 0), (vi D 0), .nils, (vi D 0), (vi D 0), .nils, .nils] [(0, 1, (ci D 0)), (1, 3, (.tmp 70))]))), (on 72 (.a (.bslice [(vi D 0), (vi D 0), (vi D 0), .nils, (vi D 0), (vi D 0), .nils, .nils] 1 8 [(0, (.tmp 71))]))), (on 73 (.p (.build [(vi D 0), (vi D 0), (vi D 0), (vi D 0), (vi D 0), (vi D 0), (.bool false), (vi D 0), (vi D 0), (.bool false), (vi D 0), (vi D 0), (vi D 0), (vi D 0), .nils, .nils] [(0, 1, (ci D 0)), (2, 1, (ci D 1)), (3, 2, (.tmp 69)), (5, 1, (.const (.int .i64 (D.ofInt (.negSucc 0))))), (14, 1, (.tmp 72))]))), (on 74 (.call (.const (.func 10 [] [])) [(.tmp 68), (.tmp 73)])), (mv 16 74)]) (.seq (.region [
 (mv 75 9), (on 76 (.r (.load true 16 (.tmp 14)))), (on 77 (.call (.const (.func 10 [] [])) [(.tmp 75), (.tmp 76)])), (mv 17 77)]) (.seq (.region [
 (mv 78 9), (on 79 (.r (.load true 2 (.tmp 13)))), (mv 80 1), (on 81 (.p (.build [(vi D 0), (vi D 0), (vi D 0), (vi D 0), (vi D 0), (vi D 0), (.bool false), (vi D 0), (vi D 0), (.bool false), (vi D 0), (vi D 0), (vi D 0), (vi D 0), .nils, .nils] [(0, 1, (ci D 2)), (2, 1, (ci D 1)), (3, 2, (.tmp 79)), (6, 1, (.tmp 80))]))), (on 82 (.call (.const (.func 10 [] [])) [(.tmp 78), (.tmp 81)])), (mv 18 82)]) (.seq (.region [
 (mv 83 9), (on 84 (.r (.load true 16 (.tmp 14)))), (on 85 (.call (.const (.func 10 [] [])) [(.tmp 83), (.tmp 84)])), (mv 19 85)]) (.seq (.region [
 (on 86 (.r (.load true 4 (.tmp 5)))), (on 87 (.p (.build [(vi D 0), (vi D 0), (vi D 0), (vi D 0), (vi D 0), (vi D 0), (.bool false), (vi D 0), (vi D 0), (.bool false), (vi D 0), (vi D 0), (vi D 0), (vi D 0), .nils, .nils] [(0, 1, (ci D 6)), (1, 1, (ci D 1)), (7, 1, (ci D 3)), (10, 4, (.tmp 86))]))), (on 20 (.a (.box (.const (.agg [(vi D 0), (vi D 0), (vi D 0), (vi D 0), (vi D 0), (vi D 0), (.bool false), (vi D 0), (vi D 0), (.bool false), (vi D 0), (vi D 0), (vi D 0), (vi D 0), .nils, .nils]))))), ⟨⟨none, none, .e (.store 16 (.tmp 20) (.tmp 87))⟩, []⟩]) (.seq (.region [
 (on 88 (.r (.load true 16 (.tmp 20)))), (on 89 (.r (.load true 16 (.tmp 20)))), (on 21 (.a (.box (.const (.agg [(vi D 0), (vi D 0), (vi D 0), (vi D 0), (vi D 0), (vi D 0), (.bool false), (vi D 0), (vi D 0), (.bool false), (vi D 0), (vi D 0), (vi D 0), (vi D 0), .nils, .nils]))))), (on 22 (.a (.box (.const (.agg [(vi D 0), (vi D 0), (vi D 0), (vi D 0), (vi D 0), (vi D 0), (.bool false), (vi D 0), (vi D 0), (.bool false), (vi D 0), (vi D 0), (vi D 0), (vi D 0), .nils, .nils]))))), ⟨⟨none, none, .e (.store 16 (.tmp 21) (.tmp 88))⟩, [⟨some 89, none, .r (.load true 16 (.tmp 20))⟩]⟩, ⟨⟨none, none, .e (.store 16 (.tmp 22) (.tmp 89))⟩, []⟩]) (.seq (.region [
 (on 90 (.p (.fieldAddr 9 (.tmp 21)))), ⟨⟨none, none, .e (.store 1 (.tmp 90) (.const (.bool true)))⟩, []⟩]) (.seq (.seq (.region [
 (mv 91 1)]) (.cond (.tmp 91) (.seq (.region [
 (on 92 (.p (.fieldAddr 8 (.tmp 22)))), ⟨⟨none, none, .e (.store 1 (.tmp 92) (ci D 1))⟩, []⟩]) (.seq (.region [
 (on 94 (.r (.load true 3 (.tmp 12)))), (on 95 (.r (.load true 4 (.tmp 5)))), (on 96 (.call (.const (.func 11 [] [])) [(.tmp 94), (.tmp 95)])), (mv 93 96), (on 97 (.p (.extract 0 (.tmp 93)))), (on 98 (.p (.extract 1 (.tmp 93)))), (mv 23 97), (mv 24 98)]) (.seq (.region [
 (mv 99 23)]) (.cond (.tmp 99) (.region [(on 100 (.r (.load true 3 (.tmp 12)))), (on 101 (.a (.bslice [(vi D 0), (vi D 0), .nils] 1 3 [(0, (.tmp 100))]))), (on 102 (.p (.fieldAddr 15 (.tmp 22)))), ⟨⟨none, none, .e (.store 1 (.tmp 102) (.tmp 101))⟩, []⟩]) (.skip))))) (.skip))) (.seq (.region [
 (mv 103 15), (on 104 (.r (.load true 16 (.tmp 20)))), (on 105 (.a (.bslice [(vi D 0), (vi D 0), (vi D 0), (vi D 0), (vi D 0), (vi D 0), (.bool false), (vi D 0), (vi D 0), (.bool false), (vi D 0), (vi D 0), (vi D 0), (vi D 0), .nils, .nils] 1 16 [(0, (.tmp 104))]))), (on 106 (.call (.const (.func 12 [] [])) [(.tmp 103), (.tmp 105)])), (mv 107 106), ⟨⟨some 108, some (some 107, true), .p (.move (.tmp 16))⟩, []⟩,
 ⟨⟨some 109, some (some 107, true), .r (.load true 2 (.tmp 13))⟩, []⟩,
 ⟨⟨some 110, some (some 107, true), .p (.build [(vi D 0), (vi D 0), (vi D 0), (vi D 0), (vi D 0), (vi D 0), (.bool false), (vi D 0), (vi D 0), (.bool false), (vi D 0), (vi D 0), (vi D 0), (vi D 0), .nils, .nils] [(0, 1, (ci D 1)), (1, 1, (ci D 1)), (3, 2, (.tmp 109)), (6, 1, (.const (.bool true)))])⟩, []⟩,
 ⟨⟨some 111, some (some 107, true), .a (.bslice [(vi D 0), (vi D 0), (vi D 0), (vi D 0), (vi D 0), (vi D 0), (.bool false), (vi D 0), (vi D 0), (.bool false), (vi D 0), (vi D 0), (vi D 0), (vi D 0), .nils, .nils] 1 16 [(0, (.tmp 110))])⟩, []⟩,
 ⟨⟨some 112, some (some 107, true), .call (.const (.func 12 [] [])) [(.tmp 108), (.tmp 111)]⟩, []⟩, (on 113 (.p (.pick (.tmp 107) (.tmp 112) (.const (.bool false))))), (mv 114 113), ⟨⟨some 115, some (some 114, true), .p (.move (.tmp 17))⟩, []⟩,
 ⟨⟨some 116, some (some 114, true), .r (.load true 16 (.tmp 21))⟩, []⟩,
 ⟨⟨some 117, some (some 114, true), .a (.bslice [(vi D 0), (vi D 0), (vi D 0), (vi D 0), (vi D 0), (vi D 0), (.bool false), (vi D 0), (vi D 0), (.bool false), (vi D 0), (vi D 0), (vi D 0), (vi D 0), .nils, .nils] 1 16 [(0, (.tmp 116))])⟩, []⟩,
 ⟨⟨some 118, some (some 114, true), .call (.const (.func 12 [] [])) [(.tmp 115), (.tmp 117)]⟩, []⟩, (on 119 (.p (.pick (.tmp 114) (.tmp 118) (.const (.bool false))))), (mv 120 119), ⟨⟨some 121, some (some 120, true), .p (.move (.tmp 18))⟩, []⟩,
 ⟨⟨some 122, some (some 120, true), .r (.load true 2 (.tmp 13))⟩, []⟩,
 ⟨⟨some 123, some (some 120, true), .p (.build [(vi D 0), (vi D 0), (vi D 0), (vi D 0), (vi D 0), (vi D 0), (.bool false), (vi D 0), (vi D 0), (.bool false), (vi D 0), (vi D 0), (vi D 0), (vi D 0), .nils, .nils] [(0, 1, (ci D 3)), (1, 1, (ci D 1)), (3, 2, (.tmp 122))])⟩, []⟩,
 ⟨⟨some 124, some (some 120, true), .a (.bslice [(vi D 0), (vi D 0), (vi D 0), (vi D 0), (vi D 0), (vi D 0), (.bool false), (vi D 0), (vi D 0), (.bool false), (vi D 0), (vi D 0), (vi D 0), (vi D 0), .nils, .nils] 1 16 [(0, (.tmp 123))])⟩, []⟩,
 ⟨⟨some 125, some (some 120, true), .call (.const (.func 12 [] [])) [(.tmp 121), (.tmp 124)]⟩, []⟩, (on 126 (.p (.pick (.tmp 120) (.tmp 125) (.const (.bool false))))), (mv 127 126), ⟨⟨some 128, some (some 127, true), .p (.move (.tmp 19))⟩, []⟩,
 ⟨⟨some 129, some (some 127, true), .r (.load true 16 (.tmp 22))⟩, []⟩,
 ⟨⟨some 130, some (some 127, true), .a (.bslice [(vi D 0), (vi D 0), (vi D 0), (vi D 0), (vi D 0), (vi D 0), (.bool false), (vi D 0), (vi D 0), (.bool false), (vi D 0), (vi D 0), (vi D 0), (vi D 0), .nils, .nils] 1 16 [(0, (.tmp 129))])⟩, []⟩,
 ⟨⟨some 131, some (some 127, true), .call (.const (.func 12 [] [])) [(.tmp 128), (.tmp 130)]⟩, []⟩, (on 132 (.p (.pick (.tmp 127) (.tmp 131) (.const (.bool false))))), (mv 6 132)]) (.ret))))))))))))))))))⟩
theorem lf3_eq (D : Dom I S) : trFunc D (tyFn D) Tryz.f3 = some (lf3 D) := by kernel_rfl
noncomputable def lf4 (D : Dom I S) : LFunc I S := ⟨137, [.tmp 0], .seq (.region [
 (on 0 (.p (.move (.const (.bool false)))))]) (.seq (.region [
 (on 23 (.call (.const (.func 5 [] [])) [(ci D 40)])), (mv 22 23), (on 24 (.p (.extract 0 (.tmp 22)))), (on 25 (.p (.extract 1 (.tmp 22)))), (mv 1 24), (mv 2 25)]) (.seq (.region [
 (mv 27 1), (on 28 (.call (.const (.func 6 [] [])) [(.tmp 27), (ci D 0), (ci D 1)])), (mv 26 28), (on 29 (.p (.extract 0 (.tmp 26)))), (on 30 (.p (.extract 1 (.tmp 26)))), (on 31 (.p (.extract 2 (.tmp 26)))), (mv 3 29), (mv 4 30), (mv 5 31)]) (.seq (.region [
 (on 33 (.call (.const (.func 6 [] [])) [(.const .nilp), (ci D 0), (ci D 1)])), (mv 32 33), (on 34 (.p (.extract 0 (.tmp 32)))), (on 35 (.p (.extract 1 (.tmp 32)))), (on 36 (.p (.extract 2 (.tmp 32)))), (mv 6 34), (mv 7 35), (mv 8 36)]) (.seq (.seq (.region [
 (mv 37 5), (on 38 (.call (.const (.func 7 [] [])) [(.tmp 37)])), (on 39 (.p (.bin .neq (.tmp 38) (ci D 0)))), (mv 40 39), ⟨⟨some 41, some (some 40, false), .p (.move (.tmp 3))⟩, []⟩,
 ⟨⟨some 42, some (some 40, false), .r (.eqRef .ptr false (.tmp 41) (.const .nilp))⟩, []⟩, (on 43 (.p (.pick (.tmp 40) (.const (.bool true)) (.tmp 42))))]) (.cond (.tmp 43) (.seq (.region [
 (on 0 (.p (.move (.const (.bool false)))))]) (.ret)) (.skip))) (.seq (.region [
 (mv 45 3), (on 46 (.call (.const (.func 14 [] [])) [(ci D 5)])), (on 47 (.call (.const (.func 13 [] [])) [(.tmp 45), (.tmp 46)])), (mv 44 47), (on 48 (.p (.extract 0 (.tmp 44)))), (on 49 (.p (.extract 1 (.tmp 44)))), (on 50 (.p (.extract 2 (.tmp 44)))), (mv 9 48), (mv 10 49), (mv 11 50)]) (.seq (.region [
 (mv 52 3), (on 53 (.p (.build [(vi D 0), (vi D 0), (vi D 0), (vi D 0)] [(2, 1, (ci D 9)), (3, 1, (ci D 9))]))), (on 54 (.p (.build [(vi D 0), .nils, (vi D 0), (vi D 0), (vi D 0), (vi D 0), (vi D 0), (vi D 0), (vi D 0), (vi D 0), (vi D 0), (vi D 0)] [(0, 1, (ci D 1)), (2, 4, (.tmp 53))]))), (on 55 (.call (.const (.func 13 [] [])) [(.tmp 52), (.tmp 54)])), (mv 51 55), (on 56 (.p (.extract 0 (.tmp 51)))), (on 57 (.p (.extract 1 (.tmp 51)))), (on 58 (.p (.extract 2 (.tmp 51)))), (mv 12 56), (mv 13 57), (mv 14 58)]) (.seq (.region [
 (mv 60 3), (on 61 (.p (.build [(vi D 0), (vi D 0), (vi D 0), (vi D 0)] [(0, 1, (ci D 9))]))), (on 62 (.p (.build [(vi D 0), .nils, (vi D 0), (vi D 0), (vi D 0), (vi D 0), (vi D 0), (vi D 0), (vi D 0), (vi D 0), (vi D 0), (vi D 0)] [(0, 1, (ci D 1)), (2, 4, (.tmp 61))]))), (on 63 (.call (.const (.func 13 [] [])) [(.tmp 60), (.tmp 62)])), (mv 59 63), (on 64 (.p (.extract 0 (.tmp 59)))), (on 65 (.p (.extract 1 (.tmp 59)))), (on 66 (.p (.extract 2 (.tmp 59)))), (mv 15 64), (mv 16 65), (mv 17 66)]) (.seq (.region [
 (mv 67 3), (on 68 (.call (.const (.func 15 [] [])) [(.tmp 67)])), (mv 18 68)]) (.seq (.region [
 (mv 70 1), (on 71 (.call (.const (.func 6 [] [])) [(.tmp 70), (ci D 0), (ci D 1)])), (mv 69 71), (on 72 (.p (.extract 0 (.tmp 69)))), (on 73 (.p (.extract 1 (.tmp 69)))), (on 74 (.p (.extract 2 (.tmp 69)))), (mv 19 72), (mv 20 73), (mv 21 74)]) (.seq (.region [
 (mv 75 4), (on 76 (.p (.len (.tmp 75)))), (on 77 (.p (.bin .eql (.tmp 76) (ci D 0)))), (mv 78 77), ⟨⟨some 79, some (some 78, true), .p (.move (.tmp 8))⟩, []⟩,
 ⟨⟨some 80, some (some 78, true), .call (.const (.func 7 [] [])) [(.tmp 79)]⟩, []⟩,
 ⟨⟨some 81, some (some 78, true), .p (.bin .eql (.tmp 80) (ci D 1))⟩, []⟩, (on 82 (.p (.pick (.tmp 78) (.tmp 81) (.const (.bool false))))), (mv 83 82), ⟨⟨some 84, some (some 83, true), .p (.move (.tmp 9))⟩, []⟩,
 ⟨⟨some 85, some (some 83, true), .p (.bin .eql (.tmp 84) (ci D 1))⟩, []⟩, (on 86 (.p (.pick (.tmp 83) (.tmp 85) (.const (.bool false))))), (mv 87 86), ⟨⟨some 88, some (some 87, true), .p (.move (.tmp 10))⟩, []⟩,
 ⟨⟨some 89, some (some 87, true), .p (.len (.tmp 88))⟩, []⟩,
 ⟨⟨some 90, some (some 87, true), .p (.bin .eql (.tmp 89) (ci D 0))⟩, []⟩, (on 91 (.p (.pick (.tmp 87) (.tmp 90) (.const (.bool false))))), (mv 92 91), ⟨⟨some 93, some (some 92, true), .p (.move (.tmp 11))⟩, []⟩,
 ⟨⟨some 94, some (some 92, true), .call (.const (.func 7 [] [])) [(.tmp 93)]⟩, []⟩,
 ⟨⟨some 95, some (some 92, true), .p (.bin .eql (.tmp 94) (ci D 0))⟩, []⟩, (on 96 (.p (.pick (.tmp 92) (.tmp 95) (.const (.bool false))))), (mv 97 96), ⟨⟨some 98, some (some 97, true), .p (.move (.tmp 12))⟩, []⟩,
 ⟨⟨some 99, some (some 97, true), .p (.bin .eql (.tmp 98) (ci D 2))⟩, []⟩, (on 100 (.p (.pick (.tmp 97) (.tmp 99) (.const (.bool false))))), (mv 101 100), ⟨⟨some 102, some (some 101, true), .p (.move (.tmp 14))⟩, []⟩,
 ⟨⟨some 103, some (some 101, true), .call (.const (.func 7 [] [])) [(.tmp 102)]⟩, []⟩,
 ⟨⟨some 104, some (some 101, true), .p (.bin .eql (.tmp 103) (ci D 0))⟩, []⟩, (on 105 (.p (.pick (.tmp 101) (.tmp 104) (.const (.bool false))))), (mv 106 105), ⟨⟨some 107, some (some 106, true), .p (.move (.tmp 17))⟩, []⟩,
 ⟨⟨some 108, some (some 106, true), .call (.const (.func 7 [] [])) [(.tmp 107)]⟩, []⟩,
 ⟨⟨some 109, some (some 106, true), .p (.bin .eql (.tmp 108) (ci D 2100))⟩, []⟩, (on 110 (.p (.pick (.tmp 106) (.tmp 109) (.const (.bool false))))), (mv 111 110), ⟨⟨some 112, some (some 111, true), .p (.move (.tmp 18))⟩, []⟩,
 ⟨⟨some 113, some (some 111, true), .p (.build [(vi D 0), (vi D 0), .nils] [(0, 1, (ci D 1)), (1, 1, (ci D 0))])⟩, []⟩,
 ⟨⟨some 114, some (some 111, true), .call (.const (.func 9 [] [])) [(ci D 5), (ci D 5), (ci D 5)]⟩, []⟩,
 ⟨⟨some 115, some (some 111, true), .a (.bslice [(vi D 0), (vi D 0), .nils] 1 3 [(0, (.tmp 114))])⟩, []⟩,
 ⟨⟨some 116, some (some 111, true), .p (.build [(vi D 0), (vi D 0), .nils] [(0, 1, (ci D 2)), (1, 1, (ci D 0)), (2, 1, (.tmp 115))])⟩, []⟩,
 ⟨⟨some 117, some (some 111, true), .a (.bslice [(vi D 0), (vi D 0), .nils] 2 3 [(0, (.tmp 113)), (1, (.tmp 116))])⟩, []⟩,
 ⟨⟨some 118, some (some 111, true), .call (.const (.func 16 [] [])) [(.tmp 112), (.tmp 117)]⟩, []⟩, (on 119 (.p (.pick (.tmp 111) (.tmp 118) (.const (.bool false))))), (mv 120 119), ⟨⟨some 121, some (some 120, true), .p (.move (.tmp 21))⟩, []⟩,
 ⟨⟨some 122, some (some 120, true), .call (.const (.func 7 [] [])) [(.tmp 121)]⟩, []⟩,
 ⟨⟨some 123, some (some 120, true), .p (.bin .eql (.tmp 122) (ci D 0))⟩, []⟩, (on 124 (.p (.pick (.tmp 120) (.tmp 123) (.const (.bool false))))), (mv 125 124), ⟨⟨some 126, some (some 125, true), .p (.move (.tmp 19))⟩, []⟩,
 ⟨⟨some 127, some (some 125, true), .call (.const (.func 18 [] [])) [(.tmp 126)]⟩, []⟩,
 ⟨⟨some 128, some (some 125, true), .call (.const (.func 9 [] [])) [(ci D 5), (ci D 5), (ci D 5)]⟩, []⟩,
 ⟨⟨some 129, some (some 125, true), .a (.bslice [(vi D 0), (vi D 0), .nils] 1 3 [(0, (.tmp 128))])⟩, []⟩,
 ⟨⟨some 130, some (some 125, true), .call (.const (.func 17 [] [])) [(.tmp 127), (.tmp 129)]⟩, []⟩, (on 131 (.p (.pick (.tmp 125) (.tmp 130) (.const (.bool false))))), (mv 132 131), ⟨⟨some 133, some (some 132, true), .p (.move (.tmp 19))⟩, []⟩,
 ⟨⟨some 134, some (some 132, true), .call (.const (.func 19 [] [])) [(.tmp 133)]⟩, []⟩,
 ⟨⟨some 135, some (some 132, true), .p (.bin .eql (.tmp 134) (ci D 1))⟩, []⟩, (on 136 (.p (.pick (.tmp 132) (.tmp 135) (.const (.bool false))))), (mv 0 136)]) (.ret)))))))))))⟩
theorem lf4_eq (D : Dom I S) : trFunc D (tyFn D) Tryz.f4 = some (lf4 D) := by kernel_rfl
noncomputable def lf5 (D : Dom I S) : LFunc I S := ⟨20, [.tmp 2, .tmp 3], .seq (.region [
 (on 2 (.p (.move (.const .nilp)))), (on 3 (.p (.move (ci D 0))))]) (.seq (.seq (.region [
 (mv 5 0), (on 6 (.p (.bin .lss (.tmp 5) (ci D 1)))), (mv 7 6), ⟨⟨some 8, some (some 7, false), .p (.move (.tmp 0))⟩, []⟩,
 ⟨⟨some 9, some (some 7, false), .p (.bin .gtr (.tmp 8) (ci D 1024))⟩, []⟩, (on 10 (.p (.pick (.tmp 7) (.const (.bool true)) (.tmp 9))))]) (.cond (.tmp 10) (.seq (.region [
 (on 2 (.p (.move (.const .nilp)))), (on 3 (.p (.move (ci D 800))))]) (.ret)) (.skip))) (.seq (.region [
 (on 11 (.a (.mkslice [(.int .u8 (D.ofInt (.ofNat 0)))] 1 1 (ci D 64) (ci D 64)))), (on 12 (.r (.ofBytes (.tmp 11)))), (mv 4 12)]) (.seq (.region [
 (mv 13 4), ⟨⟨some 14, none, .a (.bslice [(.str (D.sOf ⟨#[]⟩))] 1 1 [(0, (.tmp 13))])⟩, []⟩, (mv 15 0), (on 16 (.call (.const (.func 20 [] [])) [(.tmp 14), (.tmp 15)])), (on 17 (.a (.mkmap))), (on 18 (.p (.build [.nils, .nilm, (vi D 0)] [(0, 1, (.tmp 16)), (1, 1, (.tmp 17))]))), (on 19 (.a (.box (.tmp 18)))), (mv 2 19), (on 3 (.p (.move (ci D 0))))]) (.ret))))⟩
theorem lf5_eq (D : Dom I S) : trFunc D (tyFn D) Tryz.f5 = some (lf5 D) := by kernel_rfl
noncomputable def lf6 (D : Dom I S) : LFunc I S := ⟨98, [.tmp 6, .tmp 7, .tmp 8], .seq (.region [
 (on 6 (.p (.move (.const .nilp)))), (on 7 (.p (.move (.const .nils)))), (on 8 (.p (.move (ci D 0))))]) (.seq (.block 0 (.seq (.region [
 (mv 19 0), (on 20 (.r (.eqRef .ptr false (.tmp 19) (.const .nilp)))), (mv 18 20)]) (.cond (.tmp 18) (.seq (.region [
 (on 6 (.p (.move (.const .nilp)))), (on 7 (.p (.move (.const .nils)))), (on 8 (.p (.move (ci D 1))))]) (.ret)) (.seq (.region [
 (mv 22 2), (on 23 (.p (.bin .lss (.tmp 22) (ci D 1)))), (mv 24 23), ⟨⟨some 25, some (some 24, false), .p (.move (.tmp 2))⟩, []⟩,
 ⟨⟨some 26, some (some 24, false), .p (.bin .gtr (.tmp 25) (ci D 8))⟩, []⟩, (on 27 (.p (.pick (.tmp 24) (.const (.bool true)) (.tmp 26)))), (mv 28 27), ⟨⟨some 29, some (some 28, false), .p (.move (.tmp 1))⟩, []⟩,
 ⟨⟨some 30, some (some 28, false), .p (.bin .lss (.tmp 29) (ci D 0))⟩, []⟩, (on 31 (.p (.pick (.tmp 28) (.const (.bool true)) (.tmp 30)))), (mv 32 31), ⟨⟨some 33, some (some 32, false), .p (.move (.tmp 1))⟩, []⟩,
 ⟨⟨some 34, some (some 32, false), .p (.move (.tmp 2))⟩, []⟩,
 ⟨⟨some 35, some (some 32, false), .p (.bin .geq (.tmp 33) (.tmp 34))⟩, []⟩, (on 36 (.p (.pick (.tmp 32) (.const (.bool true)) (.tmp 35)))), (mv 21 36)]) (.cond (.tmp 21) (.seq (.region [
 (on 6 (.p (.move (.const .nilp)))), (on 7 (.p (.move (.const .nils)))), (on 8 (.p (.move (ci D 2100))))]) (.ret)) (.skip)))))) (.seq (.region [
 (mv 38 0), (on 39 (.call (.const (.func 21 [] [])) [(.tmp 38)])), (mv 37 39), (on 40 (.p (.extract 0 (.tmp 37)))), (on 41 (.p (.extract 1 (.tmp 37)))), (on 42 (.p (.extract 2 (.tmp 37)))), (mv 9 40), (mv 10 41), (mv 11 42)]) (.seq (.region [
 (mv 44 9), (mv 45 10), (mv 46 2), (on 47 (.call (.const (.func 22 [] [])) [(.tmp 44), (.tmp 45), (.tmp 46)])), (mv 43 47), (on 48 (.p (.extract 0 (.tmp 43)))), (on 49 (.p (.extract 1 (.tmp 43)))), (mv 12 48), (mv 13 49)]) (.seq (.seq (.region [
 (mv 50 13), (on 51 (.p (.un .not (.tmp 50))))]) (.cond (.tmp 51) (.seq (.region [
 (on 6 (.p (.move (.const .nilp)))), (on 7 (.p (.move (.const .nils)))), (on 8 (.p (.move (ci D 2100))))]) (.ret)) (.skip))) (.seq (.region [
 (mv 53 1), (mv 54 2), (mv 55 12), (on 56 (.call (.const (.func 23 [] [])) [(.tmp 53), (.tmp 54), (.tmp 55)])), (mv 52 56), (on 57 (.p (.extract 0 (.tmp 52)))), (on 58 (.p (.extract 1 (.tmp 52)))), (on 14 (.a (.box (.const (.agg [(vi D 0), .nils, .nils, .nils, (vi D 0), .nils, .nils, .nils, .nils, (vi D 0)]))))), ⟨⟨none, none, .e (.store 10 (.tmp 14) (.tmp 57))⟩, []⟩, (mv 15 58)]) (.seq (.seq (.region [
 (mv 59 15), (on 60 (.p (.bin .neq (.tmp 59) (ci D 0))))]) (.cond (.tmp 60) (.seq (.region [
 (on 6 (.p (.move (.const .nilp)))), (on 7 (.p (.move (.const .nils)))), (on 8 (.p (.move (ci D 2100))))]) (.ret)) (.skip))) (.seq (.region [
 (mv 61 1), (mv 62 2), (on 63 (.p (.build [(vi D 0), (vi D 0), .nilp, .nilp, (vi D 0), .nils, .nils, .nils] [(0, 1, (.tmp 61)), (1, 1, (.tmp 62))]))), (on 64 (.a (.box (.tmp 63)))), (mv 16 64)]) (.seq (.seq (.region [
 (mv 66 16), (mv 67 1), (mv 68 2), (on 69 (.r (.load true 10 (.tmp 14)))), (mv 70 9), (on 71 (.call (.const (.func 24 [] [])) [(.tmp 67), (.tmp 68), (.tmp 69), (.tmp 70)])), (mv 65 71), (on 72 (.p (.extract 0 (.tmp 65)))), (on 73 (.p (.extract 1 (.tmp 65)))), (on 74 (.p (.nilchk (.tmp 66)))), (on 75 (.p (.fieldAddr 2 (.tmp 74)))), ⟨⟨none, none, .e (.store 1 (.tmp 75) (.tmp 72))⟩, []⟩, (mv 15 73)]) (.seq (.region [
 (mv 76 15), (on 77 (.p (.bin .neq (.tmp 76) (ci D 0))))]) (.cond (.tmp 77) (.seq (.region [
 (on 6 (.p (.move (.const .nilp)))), (on 7 (.p (.move (.const .nils)))), (on 8 (.p (.move (ci D 2100))))]) (.ret)) (.skip)))) (.seq (.region [
 (on 17 (.p (.move (.const .nils))))]) (.seq (.seq (.region [
 (mv 79 16), (mv 80 1), (mv 81 2), (on 82 (.r (.load true 10 (.tmp 14)))), (mv 83 16), (on 84 (.p (.nilchk (.tmp 83)))), (on 85 (.p (.fieldAddr 2 (.tmp 84)))), (on 86 (.r (.load false 1 (.tmp 85)))), (mv 87 9), (on 88 (.call (.const (.func 25 [] [])) [(.tmp 80), (.tmp 81), (.tmp 82), (.tmp 86), (.tmp 87)])), (mv 78 88), (on 89 (.p (.extract 0 (.tmp 78)))), (on 90 (.p (.extract 1 (.tmp 78)))), (on 91 (.p (.extract 2 (.tmp 78)))), (on 92 (.p (.nilchk (.tmp 79)))), (on 93 (.p (.fieldAddr 3 (.tmp 92)))), ⟨⟨none, none, .e (.store 1 (.tmp 93) (.tmp 89))⟩, []⟩, (mv 17 90), (mv 15 91)]) (.seq (.region [
 (mv 94 15), (on 95 (.p (.bin .neq (.tmp 94) (ci D 0))))]) (.cond (.tmp 95) (.seq (.region [
 (on 6 (.p (.move (.const .nilp)))), (on 7 (.p (.move (.const .nils)))), (on 8 (.p (.move (ci D 2100))))]) (.ret)) (.skip)))) (.seq (.region [
 (mv 96 16), (mv 97 17), (mv 6 96), (mv 7 97), (on 8 (.p (.move (ci D 0))))]) (.ret))))))))))))⟩
theorem lf6_eq (D : Dom I S) : trFunc D (tyFn D) Tryz.f6 = some (lf6 D) := by kernel_rfl
noncomputable def lf7 (D : Dom I S) : LFunc I S := ⟨4, [.tmp 2], .seq (.region [
 (on 2 (.p (.move (ci D 0))))]) (.seq (.region [
 (mv 3 0), (mv 2 3)]) (.ret))⟩
theorem lf7_eq (D : Dom I S) : trFunc D (tyFn D) Tryz.f7 = some (lf7 D) := by kernel_rfl
noncomputable def lf8 (D : Dom I S) : LFunc I S := ⟨31, [.tmp 2], .seq (.region [
 (on 1 (.a (.box (.tmp 0)))), (on 2 (.p (.move (.const (.bool false)))))]) (.seq (.region [
 (on 3 (.p (.fieldAddr 0 (.tmp 1)))), (on 4 (.r (.load false 1 (.tmp 3)))), (on 5 (.p (.fieldAddr 1 (.tmp 1)))), (on 6 (.r (.load false 1 (.tmp 5)))), (on 7 (.p (.build [(vi D 0), (vi D 0)] [(0, 1, (.tmp 4)), (1, 1, (.tmp 6))]))), (on 8 (.call (.const (.func 26 [] [])) [(.tmp 7)])), (mv 9 8), ⟨⟨some 10, some (some 9, true), .p (.fieldAddr 2 (.tmp 1))⟩, []⟩,
 ⟨⟨some 11, some (some 9, true), .r (.load false 1 (.tmp 10))⟩, []⟩,
 ⟨⟨some 12, some (some 9, true), .p (.fieldAddr 3 (.tmp 1))⟩, []⟩,
 ⟨⟨some 13, some (some 9, true), .r (.load false 1 (.tmp 12))⟩, []⟩,
 ⟨⟨some 14, some (some 9, true), .p (.build [(vi D 0), (vi D 0)] [(0, 1, (.tmp 11)), (1, 1, (.tmp 13))])⟩, []⟩,
 ⟨⟨some 15, some (some 9, true), .call (.const (.func 26 [] [])) [(.tmp 14)]⟩, []⟩, (on 16 (.p (.pick (.tmp 9) (.tmp 15) (.const (.bool false))))), (mv 17 16), ⟨⟨some 18, some (some 17, true), .p (.fieldAddr 0 (.tmp 1))⟩, []⟩,
 ⟨⟨some 19, some (some 17, true), .r (.load false 1 (.tmp 18))⟩, []⟩,
 ⟨⟨some 20, some (some 17, true), .p (.fieldAddr 2 (.tmp 1))⟩, []⟩,
 ⟨⟨some 21, some (some 17, true), .r (.load false 1 (.tmp 20))⟩, []⟩,
 ⟨⟨some 22, some (some 17, true), .p (.bin .leq (.tmp 19) (.tmp 21))⟩, []⟩, (on 23 (.p (.pick (.tmp 17) (.tmp 22) (.const (.bool false))))), (mv 24 23), ⟨⟨some 25, some (some 24, true), .p (.fieldAddr 1 (.tmp 1))⟩, []⟩,
 ⟨⟨some 26, some (some 24, true), .r (.load false 1 (.tmp 25))⟩, []⟩,
 ⟨⟨some 27, some (some 24, true), .p (.fieldAddr 3 (.tmp 1))⟩, []⟩,
 ⟨⟨some 28, some (some 24, true), .r (.load false 1 (.tmp 27))⟩, []⟩,
 ⟨⟨some 29, some (some 24, true), .p (.bin .leq (.tmp 26) (.tmp 28))⟩, []⟩, (on 30 (.p (.pick (.tmp 24) (.tmp 29) (.const (.bool false))))), (mv 2 30)]) (.ret))⟩
theorem lf8_eq (D : Dom I S) : trFunc D (tyFn D) Tryz.f8 = some (lf8 D) := by kernel_rfl
noncomputable def lf9 (D : Dom I S) : LFunc I S := ⟨14, [.cell 6 true 3], .seq (.region [
 (on 6 (.a (.box (.const (.agg [(vi D 0), (vi D 0), .nils])))))]) (.seq (.region [
 (mv 7 0), (mv 8 1), (mv 9 2), (on 10 (.p (.build [(vi D 0), (vi D 0)] [(0, 1, (.tmp 8)), (1, 1, (.tmp 9))]))), (on 11 (.a (.bslice [(vi D 0), (vi D 0)] 1 2 [(0, (.tmp 10))]))), (on 12 (.a (.bslice [.nils] 1 1 [(0, (.tmp 11))]))), (on 13 (.p (.build [(vi D 0), (vi D 0), .nils] [(0, 1, (.tmp 7)), (2, 1, (.tmp 12))]))), ⟨⟨none, none, .e (.store 3 (.tmp 6) (.tmp 13))⟩, []⟩]) (.ret))⟩
theorem lf9_eq (D : Dom I S) : trFunc D (tyFn D) Tryz.f9 = some (lf9 D) := by kernel_rfl
noncomputable def lf10 (D : Dom I S) : LFunc I S := ⟨49, [.tmp 4], .seq (.region [
 (on 3 (.a (.box (.tmp 1)))), (on 4 (.p (.move (.const .nils))))]) (.seq (.seq (.region [
 (mv 8 0), (on 9 (.r (.eqRef .ptr false (.tmp 8) (.const .nilp))))]) (.cond (.tmp 9) (.seq (.region [
 (on 4 (.p (.move (.const .nils))))]) (.ret)) (.skip))) (.seq (.seq (.region [
 (on 11 (.r (.load true 16 (.tmp 3)))), (on 12 (.call (.const (.func 27 [] [])) [(.tmp 11)])), (mv 10 12), (on 13 (.p (.extract 0 (.tmp 10)))), (on 14 (.p (.extract 1 (.tmp 10)))), (mv 5 13), (mv 6 14)]) (.seq (.region [
 (mv 15 6), (on 16 (.p (.bin .neq (.tmp 15) (ci D 0)))), (mv 17 16), ⟨⟨some 18, some (some 17, false), .p (.fieldAddr 2 (.tmp 3))⟩, []⟩,
 ⟨⟨some 19, some (some 17, false), .r (.load false 1 (.tmp 18))⟩, []⟩,
 ⟨⟨some 20, some (some 17, false), .p (.move (.tmp 0))⟩, []⟩,
 ⟨⟨some 21, some (some 17, false), .p (.nilchk (.tmp 20))⟩, []⟩,
 ⟨⟨some 22, some (some 17, false), .p (.fieldAddr 0 (.tmp 21))⟩, []⟩,
 ⟨⟨some 23, some (some 17, false), .r (.load false 1 (.tmp 22))⟩, []⟩,
 ⟨⟨some 24, some (some 17, false), .p (.bin .neq (.tmp 19) (.tmp 23))⟩, []⟩, (on 25 (.p (.pick (.tmp 17) (.const (.bool true)) (.tmp 24)))), (mv 26 25), ⟨⟨some 27, some (some 26, false), .p (.fieldAddr 1 (.tmp 3))⟩, []⟩,
 ⟨⟨some 28, some (some 26, false), .r (.load false 1 (.tmp 27))⟩, []⟩,
 ⟨⟨some 29, some (some 26, false), .p (.move (.tmp 0))⟩, []⟩,
 ⟨⟨some 30, some (some 26, false), .p (.nilchk (.tmp 29))⟩, []⟩,
 ⟨⟨some 31, some (some 26, false), .p (.fieldAddr 0 (.tmp 30))⟩, []⟩,
 ⟨⟨some 32, some (some 26, false), .r (.load false 1 (.tmp 31))⟩, []⟩,
 ⟨⟨some 33, some (some 26, false), .p (.bin .eql (.tmp 28) (.tmp 32))⟩, []⟩, (on 34 (.p (.pick (.tmp 26) (.const (.bool true)) (.tmp 33)))), (mv 35 34), ⟨⟨some 36, some (some 35, false), .p (.fieldAddr 1 (.tmp 3))⟩, []⟩,
 ⟨⟨some 37, some (some 35, false), .r (.load false 1 (.tmp 36))⟩, []⟩,
 ⟨⟨some 38, some (some 35, false), .p (.move (.tmp 0))⟩, []⟩,
 ⟨⟨some 39, some (some 35, false), .p (.nilchk (.tmp 38))⟩, []⟩,
 ⟨⟨some 40, some (some 35, false), .p (.fieldAddr 1 (.tmp 39))⟩, []⟩,
 ⟨⟨some 41, some (some 35, false), .r (.load false 1 (.tmp 40))⟩, []⟩,
 ⟨⟨some 42, some (some 35, false), .p (.bin .geq (.tmp 37) (.tmp 41))⟩, []⟩, (on 43 (.p (.pick (.tmp 35) (.const (.bool true)) (.tmp 42))))]) (.cond (.tmp 43) (.seq (.region [
 (on 4 (.p (.move (.const .nils))))]) (.ret)) (.skip)))) (.seq (.region [
 (mv 44 0), (on 45 (.call (.const (.func 28 [] [])) [(.tmp 44), (.tmp 3)])), (mv 7 45)]) (.seq (.region [
 (mv 46 0), (on 47 (.call (.const (.func 29 [] [])) [(.tmp 46)]))]) (.seq (.region [
 (mv 48 7), (mv 4 48)]) (.ret))))))⟩
theorem lf10_eq (D : Dom I S) : trFunc D (tyFn D) Tryz.f10 = some (lf10 D) := by kernel_rfl
noncomputable def lf11 (D : Dom I S) : LFunc I S := ⟨82, [.tmp 4, .tmp 5], .seq (.region [
 (on 2 (.a (.box (.tmp 0)))), (on 3 (.a (.box (.tmp 1)))), (on 4 (.p (.move (.const (.bool false))))), (on 5 (.p (.move (ci D 0))))]) (.seq (.seq (.region [
 (on 11 (.r (.load true 3 (.tmp 2)))), (on 12 (.call (.const (.func 30 [] [])) [(.tmp 11)])), (on 13 (.p (.un .not (.tmp 12)))), (mv 14 13), ⟨⟨some 15, some (some 14, false), .r (.load true 4 (.tmp 3))⟩, []⟩,
 ⟨⟨some 16, some (some 14, false), .call (.const (.func 8 [] [])) [(.tmp 15)]⟩, []⟩,
 ⟨⟨some 17, some (some 14, false), .p (.un .not (.tmp 16))⟩, []⟩, (on 18 (.p (.pick (.tmp 14) (.const (.bool true)) (.tmp 17))))]) (.cond (.tmp 18) (.seq (.region [
 (on 4 (.p (.move (.const (.bool false))))), (on 5 (.p (.move (ci D 400))))]) (.ret)) (.skip))) (.seq (.region [
 (on 19 (.r (.load true 3 (.tmp 2)))), (on 21 (.r (.load true 4 (.tmp 3)))), ⟨⟨some 20, none, .call (.const (.func 31 [] [])) [(.tmp 19)]⟩, [⟨some 21, none, .r (.load true 4 (.tmp 3))⟩]⟩, (on 22 (.call (.const (.func 32 [] [])) [(.tmp 21)])), (on 7 (.a (.box (.const (.agg [(vi D 0), (vi D 0), (vi D 0), (vi D 0), (vi D 0), (vi D 0), (vi D 0), (vi D 0)]))))), (mv 6 20), ⟨⟨none, none, .e (.store 8 (.tmp 7) (.tmp 22))⟩, []⟩]) (.seq (.seq (.region [
 (on 8 (.p (.move (ci D 0))))]) (.block 0 (.loop (.seq (.seq (.region [
 (mv 23 8), (mv 24 6), (on 25 (.p (.len (.tmp 24)))), (on 26 (.p (.bin .lss (.tmp 23) (.tmp 25))))]) (.cond (.tmp 26) (.skip) (.exit 0))) (.seq (.block 1 (.seq (.seq (.region [
 (mv 29 6), (mv 30 8), (on 31 (.p (.idxSl 4 (.tmp 29) (.tmp 30)))), (on 32 (.p (.fieldAddr 0 (.tmp 31)))), (on 33 (.r (.load true 2 (.tmp 32)))), (on 34 (.r (.load true 4 (.tmp 3)))), (on 35 (.call (.const (.func 33 [] [])) [(.tmp 33), (.tmp 34)])), (mv 36 35), ⟨⟨some 37, some (some 36, false), .p (.move (.tmp 6))⟩, []⟩,
 ⟨⟨some 38, some (some 36, false), .p (.move (.tmp 8))⟩, []⟩,
 ⟨⟨some 39, some (some 36, false), .p (.idxSl 4 (.tmp 37) (.tmp 38))⟩, []⟩,
 ⟨⟨some 40, some (some 36, false), .p (.fieldAddr 2 (.tmp 39))⟩, []⟩,
 ⟨⟨some 41, some (some 36, false), .r (.load true 2 (.tmp 40))⟩, []⟩,
 ⟨⟨some 42, some (some 36, false), .r (.load true 4 (.tmp 3))⟩, []⟩,
 ⟨⟨some 43, some (some 36, false), .call (.const (.func 33 [] [])) [(.tmp 41), (.tmp 42)]⟩, []⟩, (on 44 (.p (.pick (.tmp 36) (.const (.bool true)) (.tmp 43))))]) (.cond (.tmp 44) (.seq (.region [
 (on 4 (.p (.move (.const (.bool true))))), (on 5 (.p (.move (ci D 0))))]) (.ret)) (.skip))) (.seq (.region [
 (on 9 (.p (.move (ci D 0))))]) (.block 2 (.loop (.seq (.seq (.region [
 (mv 45 9), (on 46 (.p (.bin .lss (.tmp 45) (ci D 4))))]) (.cond (.tmp 46) (.skip) (.exit 2))) (.seq (.block 3 (.seq (.region [
 (mv 49 6), (mv 50 8), (on 51 (.p (.idxSl 4 (.tmp 49) (.tmp 50)))), (on 52 (.p (.fieldAddr 0 (.tmp 51)))), (on 53 (.r (.load true 2 (.tmp 52)))), (mv 54 6), (mv 55 8), (on 56 (.p (.idxSl 4 (.tmp 54) (.tmp 55)))), (on 57 (.p (.fieldAddr 2 (.tmp 56)))), (on 58 (.r (.load true 2 (.tmp 57)))), (mv 59 9), (on 60 (.p (.idxArrP 4 2 (.tmp 7) (.tmp 59)))), (on 61 (.r (.load true 2 (.tmp 60)))), (mv 62 9), (on 63 (.p (.bin .add (.tmp 62) (ci D 1)))), (on 64 (.p (.bin .rem (.tmp 63) (ci D 4)))), (on 65 (.p (.idxArrP 4 2 (.tmp 7) (.tmp 64)))), (on 66 (.r (.load true 2 (.tmp 65)))), (on 67 (.call (.const (.func 34 [] [])) [(.tmp 53), (.tmp 58), (.tmp 61), (.tmp 66)]))]) (.cond (.tmp 67) (.seq (.region [
 (on 4 (.p (.move (.const (.bool true))))), (on 5 (.p (.move (ci D 0))))]) (.ret)) (.skip)))) (.region [(mv 47 9), (on 48 (.p (.bin .add (.tmp 47) (ci D 1)))), (mv 9 48)])))))))) (.region [(mv 27 8), (on 28 (.p (.bin .add (.tmp 27) (ci D 1)))), (mv 8 28)])))))) (.seq (.seq (.region [
 (on 10 (.p (.move (ci D 0))))]) (.block 4 (.loop (.seq (.seq (.region [
 (mv 68 10), (on 69 (.p (.bin .lss (.tmp 68) (ci D 4))))]) (.cond (.tmp 69) (.skip) (.exit 4))) (.seq (.block 5 (.seq (.region [
 (on 72 (.p (.fieldAddr 1 (.tmp 2)))), (on 73 (.r (.load false 1 (.tmp 72)))), (on 74 (.p (.bin .eql (.tmp 73) (ci D 2)))), (mv 75 74), ⟨⟨some 76, some (some 75, true), .r (.load true 3 (.tmp 2))⟩, []⟩,
 ⟨⟨some 77, some (some 75, true), .p (.move (.tmp 10))⟩, []⟩,
 ⟨⟨some 78, some (some 75, true), .p (.idxArrP 4 2 (.tmp 7) (.tmp 77))⟩, []⟩,
 ⟨⟨some 79, some (some 75, true), .r (.load true 2 (.tmp 78))⟩, []⟩,
 ⟨⟨some 80, some (some 75, true), .call (.const (.func 35 [] [])) [(.tmp 76), (.tmp 79)]⟩, []⟩, (on 81 (.p (.pick (.tmp 75) (.tmp 80) (.const (.bool false)))))]) (.cond (.tmp 81) (.seq (.region [
 (on 4 (.p (.move (.const (.bool true))))), (on 5 (.p (.move (ci D 0))))]) (.ret)) (.skip)))) (.region [(mv 70 10), (on 71 (.p (.bin .add (.tmp 70) (ci D 1)))), (mv 10 71)])))))) (.seq (.region [
 (on 4 (.p (.move (.const (.bool false))))), (on 5 (.p (.move (ci D 0))))]) (.ret))))))⟩
theorem lf11_eq (D : Dom I S) : trFunc D (tyFn D) Tryz.f11 = some (lf11 D) := by kernel_rfl
noncomputable def lf12 (D : Dom I S) : LFunc I S := ⟨27, [.tmp 4], .seq (.region [
 (on 4 (.p (.move (.const (.bool false)))))]) (.seq (.seq (.region [
 (mv 6 0), (on 7 (.p (.len (.tmp 6)))), (mv 8 1), (on 9 (.p (.len (.tmp 8)))), (on 10 (.p (.bin .neq (.tmp 7) (.tmp 9))))]) (.cond (.tmp 10) (.seq (.region [
 (on 4 (.p (.move (.const (.bool false)))))]) (.ret)) (.skip))) (.seq (.seq (.region [
 (on 5 (.p (.move (ci D 0))))]) (.block 0 (.loop (.seq (.seq (.region [
 (mv 11 5), (mv 12 0), (on 13 (.p (.len (.tmp 12)))), (on 14 (.p (.bin .lss (.tmp 11) (.tmp 13))))]) (.cond (.tmp 14) (.skip) (.exit 0))) (.seq (.block 1 (.seq (.region [
 (mv 17 0), (mv 18 5), (on 19 (.p (.idxSl 16 (.tmp 17) (.tmp 18)))), (on 20 (.r (.load true 16 (.tmp 19)))), (mv 21 1), (mv 22 5), (on 23 (.p (.idxSl 16 (.tmp 21) (.tmp 22)))), (on 24 (.r (.load true 16 (.tmp 23)))), (on 25 (.call (.const (.func 36 [] [])) [(.tmp 20), (.tmp 24)])), (on 26 (.p (.un .not (.tmp 25))))]) (.cond (.tmp 26) (.seq (.region [
 (on 4 (.p (.move (.const (.bool false)))))]) (.ret)) (.skip)))) (.region [(mv 15 5), (on 16 (.p (.bin .add (.tmp 15) (ci D 1)))), (mv 5 16)])))))) (.seq (.region [
 (on 4 (.p (.move (.const (.bool true)))))]) (.ret))))⟩
theorem lf12_eq (D : Dom I S) : trFunc D (tyFn D) Tryz.f12 = some (lf12 D) := by kernel_rfl
noncomputable def lf13 (D : Dom I S) : LFunc I S := ⟨92, [.tmp 4, .tmp 5, .tmp 6], .seq (.region [
 (on 3 (.a (.box (.tmp 1)))), (on 4 (.p (.move (ci D 0)))), (on 5 (.p (.move (.const .nils)))), (on 6 (.p (.move (ci D 0))))]) (.seq (.block 0 (.seq (.region [
 (mv 14 0), (on 15 (.r (.eqRef .ptr false (.tmp 14) (.const .nilp)))), (mv 13 15)]) (.cond (.tmp 13) (.seq (.region [
 (on 4 (.p (.move (ci D 0)))), (on 5 (.p (.move (.const .nils)))), (on 6 (.p (.move (ci D 1))))]) (.ret)) (.seq (.region [
 (mv 17 0), (on 18 (.p (.nilchk (.tmp 17)))), (on 19 (.p (.fieldAddr 1 (.tmp 18)))), (on 20 (.r (.load false 1 (.tmp 19)))), (on 21 (.call (.const (.func 37 [] [])) [(.tmp 3), (.tmp 20)])), (on 22 (.p (.un .not (.tmp 21)))), (mv 23 22), ⟨⟨some 24, some (some 23, false), .p (.move (.tmp 0))⟩, []⟩,
 ⟨⟨some 25, some (some 23, false), .p (.nilchk (.tmp 24))⟩, []⟩,
 ⟨⟨some 26, some (some 23, false), .p (.fieldAddr 4 (.tmp 25))⟩, []⟩,
 ⟨⟨some 27, some (some 23, false), .call (.const (.func 38 [] [])) [(.tmp 26)]⟩, []⟩,
 ⟨⟨some 28, some (some 23, false), .p (.bin .eql (.tmp 27) (ci D 65535))⟩, []⟩, (on 29 (.p (.pick (.tmp 23) (.const (.bool true)) (.tmp 28)))), (mv 16 29)]) (.cond (.tmp 16) (.seq (.region [
 (on 4 (.p (.move (ci D 0)))), (on 5 (.p (.move (.const .nils)))), (on 6 (.p (.move (ci D 2100))))]) (.ret)) (.skip)))))) (.seq (.region [
 (mv 30 0), (on 31 (.p (.nilchk (.tmp 30)))), (on 32 (.p (.fieldAddr 4 (.tmp 31)))), (on 33 (.call (.const (.func 39 [] [])) [(.tmp 32), (ci D 1)])), (mv 7 33)]) (.seq (.seq (.region [
 (on 34 (.p (.fieldAddr 0 (.tmp 3)))), (on 35 (.r (.load false 1 (.tmp 34)))), (on 36 (.p (.bin .eql (.tmp 35) (ci D 0))))]) (.cond (.tmp 36) (.seq (.region [
 (mv 37 7), (mv 38 0), (mv 39 7), (on 40 (.p (.fieldAddr 1 (.tmp 3)))), (on 41 (.r (.load false 1 (.tmp 40)))), (on 42 (.call (.const (.func 40 [] [])) [(.tmp 38), (.tmp 39), (.const (.int .i64 (D.ofInt (.negSucc 0)))), (.tmp 41)])), (mv 4 37), (mv 5 42), (on 6 (.p (.move (ci D 0))))]) (.ret)) (.skip))) (.seq (.region [
 (mv 44 0), (on 45 (.p (.nilchk (.tmp 44)))), (on 46 (.p (.fieldAddr 1 (.tmp 45)))), (on 47 (.r (.load false 1 (.tmp 46)))), (on 48 (.r (.load true 12 (.tmp 3)))), (on 49 (.call (.const (.func 41 [] [])) [(.tmp 47), (.tmp 48)])), (mv 43 49), (on 50 (.p (.extract 0 (.tmp 43)))), (on 51 (.p (.extract 1 (.tmp 43)))), (mv 8 50), (mv 9 51)]) (.seq (.region [
 (mv 52 7), (on 53 (.p (.fieldAddr 0 (.tmp 3)))), (on 54 (.r (.load false 1 (.tmp 53)))), (on 55 (.p (.fieldAddr 9 (.tmp 3)))), (on 56 (.r (.load true 3 (.tmp 55)))), (on 57 (.p (.build [(vi D 0), .nils, (vi D 0), (vi D 0), (vi D 0), (vi D 0), (vi D 0), (vi D 0), (vi D 0), (vi D 0), (vi D 0), (vi D 0)] [(0, 1, (.tmp 54)), (9, 3, (.tmp 56))]))), (mv 58 8), (on 59 (.p (.build [(vi D 0), (vi D 0), .nils, (vi D 0), (vi D 0), (vi D 0), (vi D 0), (vi D 0), (vi D 0), (vi D 0), (vi D 0), (vi D 0), (vi D 0), .nilp] [(0, 1, (.tmp 52)), (1, 12, (.tmp 57)), (13, 1, (.tmp 58))]))), (on 60 (.a (.box (.tmp 59)))), (mv 10 60)]) (.seq (.region [
 (mv 61 0), (mv 62 0), (on 63 (.p (.nilchk (.tmp 62)))), (on 64 (.p (.fieldAddr 5 (.tmp 63)))), (on 65 (.r (.load false 1 (.tmp 64)))), (mv 66 10), (on 67 (.a (.bslice [.nilp] 1 1 [(0, (.tmp 66))]))), (on 68 (.e (.append 1 8 (.tmp 65) (.tmp 67)))), (on 69 (.p (.nilchk (.tmp 61)))), (on 70 (.p (.fieldAddr 5 (.tmp 69)))), ⟨⟨none, none, .e (.store 1 (.tmp 70) (.tmp 68))⟩, []⟩]) (.seq (.region [
 (on 71 (.r (.load true 12 (.tmp 3)))), (on 72 (.call (.const (.func 42 [] [])) [(.tmp 71)])), (on 11 (.a (.box (.const (.agg [(vi D 0), (vi D 0), (vi D 0), (vi D 0)]))))), ⟨⟨none, none, .e (.store 4 (.tmp 11) (.tmp 72))⟩, []⟩]) (.seq (.region [
 (mv 73 0), (mv 74 10), (mv 75 0), (mv 76 0), (on 77 (.p (.nilchk (.tmp 76)))), (on 78 (.p (.fieldAddr 0 (.tmp 77)))), (on 79 (.r (.load false 1 (.tmp 78)))), (mv 80 7), (on 81 (.r (.load true 4 (.tmp 11)))), (on 82 (.call (.const (.func 44 [] [])) [(.tmp 75), (.tmp 79), (.tmp 80), (.tmp 81)])), (on 83 (.call (.const (.func 43 [] [])) [(.tmp 73), (.tmp 74), (.tmp 82)])), (mv 12 83)]) (.seq (.region [
 (mv 84 7), (mv 85 12), (mv 86 0), (mv 87 7), (on 88 (.r (.load true 4 (.tmp 11)))), (on 89 (.p (.build [(vi D 0), (vi D 0), (vi D 0), (vi D 0), (vi D 0), (vi D 0), (.bool false), (vi D 0), (vi D 0), (.bool false), (vi D 0), (vi D 0), (vi D 0), (vi D 0), .nils, .nils] [(0, 1, (ci D 5)), (7, 1, (.tmp 87)), (10, 4, (.tmp 88))]))), (on 90 (.call (.const (.func 45 [] [])) [(.tmp 86), (.tmp 89)])), (on 91 (.e (.append 16 160 (.tmp 85) (.tmp 90)))), (mv 4 84), (mv 5 91), (on 6 (.p (.move (ci D 0))))]) (.ret))))))))))⟩
theorem lf13_eq (D : Dom I S) : trFunc D (tyFn D) Tryz.f13 = some (lf13 D) := by kernel_rfl
noncomputable def lf14 (D : Dom I S) : LFunc I S := ⟨10, [.cell 2 true 12], .seq (.region [
 (on 2 (.a (.box (.const (.agg [(vi D 0), .nils, (vi D 0), (vi D 0), (vi D 0), (vi D 0), (vi D 0), (vi D 0), (vi D 0), (vi D 0), (vi D 0), (vi D 0)])))))]) (.seq (.region [
 (mv 3 0), (mv 4 0), (mv 5 0), (on 6 (.call (.const (.func 9 [] [])) [(.tmp 3), (.tmp 4), (.tmp 5)])), (on 7 (.p (.build [(vi D 0), (vi D 0), (vi D 0), .nils, (vi D 0), (vi D 0), .nils, .nils] [(0, 1, (ci D 0)), (1, 3, (.tmp 6))]))), (on 8 (.a (.bslice [(vi D 0), (vi D 0), (vi D 0), .nils, (vi D 0), (vi D 0), .nils, .nils] 1 8 [(0, (.tmp 7))]))), (on 9 (.p (.build [(vi D 0), .nils, (vi D 0), (vi D 0), (vi D 0), (vi D 0), (vi D 0), (vi D 0), (vi D 0), (vi D 0), (vi D 0), (vi D 0)] [(0, 1, (ci D 0)), (1, 1, (.tmp 8))]))), ⟨⟨none, none, .e (.store 12 (.tmp 2) (.tmp 9))⟩, []⟩]) (.ret))⟩
theorem lf14_eq (D : Dom I S) : trFunc D (tyFn D) Tryz.f14 = some (lf14 D) := by kernel_rfl
noncomputable def lf15 (D : Dom I S) : LFunc I S := ⟨29, [.tmp 2], .seq (.region [
 (on 2 (.p (.move (.const .nils))))]) (.seq (.seq (.region [
 (mv 5 0), (on 6 (.r (.eqRef .ptr false (.tmp 5) (.const .nilp))))]) (.cond (.tmp 6) (.seq (.region [
 (on 2 (.p (.move (.const .nils))))]) (.ret)) (.skip))) (.seq (.region [
 (mv 7 0), (on 8 (.p (.nilchk (.tmp 7)))), (on 9 (.p (.fieldAddr 7 (.tmp 8)))), (on 10 (.r (.load false 1 (.tmp 9)))), (on 11 (.call (.const (.func 46 [] [])) [(.tmp 10)])), (mv 3 11)]) (.seq (.seq (.region [
 (mv 12 3), (on 13 (.p (.len (.tmp 12)))), (on 14 (.p (.move (ci D 0))))]) (.block 0 (.loop (.seq (.region [
 (on 15 (.p (.bin .lss (.tmp 14) (.tmp 13))))]) (.seq (.cond (.tmp 15) (.skip) (.exit 0)) (.seq (.block 1 (.seq (.region [
 (mv 16 14), (mv 4 16)]) (.region [(mv 17 3), (mv 18 4), (mv 19 3), (mv 20 4), (on 21 (.p (.idxSl 3 (.tmp 19) (.tmp 20)))), (on 22 (.p (.fieldAddr 2 (.tmp 21)))), (on 23 (.r (.load false 1 (.tmp 22)))), (on 24 (.call (.const (.func 47 [] [])) [(.tmp 23)])), (on 25 (.p (.idxSl 3 (.tmp 17) (.tmp 18)))), (on 26 (.p (.fieldAddr 2 (.tmp 25)))), ⟨⟨none, none, .e (.store 1 (.tmp 26) (.tmp 24))⟩, []⟩]))) (.region [(on 27 (.p (.bin .add (.tmp 14) (ci D 1)))), (mv 14 27)]))))))) (.seq (.region [
 (mv 28 3), (mv 2 28)]) (.ret)))))⟩
theorem lf15_eq (D : Dom I S) : trFunc D (tyFn D) Tryz.f15 = some (lf15 D) := by kernel_rfl
noncomputable def lf16 (D : Dom I S) : LFunc I S := ⟨27, [.tmp 4], .seq (.region [
 (on 4 (.p (.move (.const (.bool false)))))]) (.seq (.seq (.region [
 (mv 6 0), (on 7 (.p (.len (.tmp 6)))), (mv 8 1), (on 9 (.p (.len (.tmp 8)))), (on 10 (.p (.bin .neq (.tmp 7) (.tmp 9))))]) (.cond (.tmp 10) (.seq (.region [
 (on 4 (.p (.move (.const (.bool false)))))]) (.ret)) (.skip))) (.seq (.seq (.region [
 (on 5 (.p (.move (ci D 0))))]) (.block 0 (.loop (.seq (.seq (.region [
 (mv 11 5), (mv 12 0), (on 13 (.p (.len (.tmp 12)))), (on 14 (.p (.bin .lss (.tmp 11) (.tmp 13))))]) (.cond (.tmp 14) (.skip) (.exit 0))) (.seq (.block 1 (.seq (.region [
 (mv 17 0), (mv 18 5), (on 19 (.p (.idxSl 3 (.tmp 17) (.tmp 18)))), (on 20 (.r (.load true 3 (.tmp 19)))), (mv 21 1), (mv 22 5), (on 23 (.p (.idxSl 3 (.tmp 21) (.tmp 22)))), (on 24 (.r (.load true 3 (.tmp 23)))), (on 25 (.call (.const (.func 48 [] [])) [(.tmp 20), (.tmp 24)])), (on 26 (.p (.un .not (.tmp 25))))]) (.cond (.tmp 26) (.seq (.region [
 (on 4 (.p (.move (.const (.bool false)))))]) (.ret)) (.skip)))) (.region [(mv 15 5), (on 16 (.p (.bin .add (.tmp 15) (ci D 1)))), (mv 5 16)])))))) (.seq (.region [
 (on 4 (.p (.move (.const (.bool true)))))]) (.ret))))⟩
theorem lf16_eq (D : Dom I S) : trFunc D (tyFn D) Tryz.f16 = some (lf16 D) := by kernel_rfl
noncomputable def lf17 (D : Dom I S) : LFunc I S := ⟨27, [.tmp 4], .seq (.region [
 (on 4 (.p (.move (.const (.bool false)))))]) (.seq (.seq (.region [
 (mv 6 0), (on 7 (.p (.len (.tmp 6)))), (mv 8 1), (on 9 (.p (.len (.tmp 8)))), (on 10 (.p (.bin .neq (.tmp 7) (.tmp 9))))]) (.cond (.tmp 10) (.seq (.region [
 (on 4 (.p (.move (.const (.bool false)))))]) (.ret)) (.skip))) (.seq (.seq (.region [
 (on 5 (.p (.move (ci D 0))))]) (.block 0 (.loop (.seq (.seq (.region [
 (mv 11 5), (mv 12 0), (on 13 (.p (.len (.tmp 12)))), (on 14 (.p (.bin .lss (.tmp 11) (.tmp 13))))]) (.cond (.tmp 14) (.skip) (.exit 0))) (.seq (.block 1 (.seq (.region [
 (mv 17 0), (mv 18 5), (on 19 (.p (.idxSl 3 (.tmp 17) (.tmp 18)))), (on 20 (.r (.load true 3 (.tmp 19)))), (mv 21 1), (mv 22 5), (on 23 (.p (.idxSl 3 (.tmp 21) (.tmp 22)))), (on 24 (.r (.load true 3 (.tmp 23)))), (on 25 (.call (.const (.func 49 [] [])) [(.tmp 20), (.tmp 24)])), (on 26 (.p (.un .not (.tmp 25))))]) (.cond (.tmp 26) (.seq (.region [
 (on 4 (.p (.move (.const (.bool false)))))]) (.ret)) (.skip)))) (.region [(mv 15 5), (on 16 (.p (.bin .add (.tmp 15) (ci D 1)))), (mv 5 16)])))))) (.seq (.region [
 (on 4 (.p (.move (.const (.bool true)))))]) (.ret))))⟩
theorem lf17_eq (D : Dom I S) : trFunc D (tyFn D) Tryz.f17 = some (lf17 D) := by kernel_rfl
noncomputable def lf18 (D : Dom I S) : LFunc I S := ⟨11, [.tmp 2], .seq (.region [
 (on 2 (.p (.move (.const .nils))))]) (.seq (.seq (.region [
 (mv 3 0), (on 4 (.r (.eqRef .ptr false (.tmp 3) (.const .nilp))))]) (.cond (.tmp 4) (.seq (.region [
 (on 2 (.p (.move (.const .nils))))]) (.ret)) (.skip))) (.seq (.region [
 (mv 5 0), (on 6 (.p (.nilchk (.tmp 5)))), (on 7 (.p (.fieldAddr 2 (.tmp 6)))), (on 8 (.r (.load false 1 (.tmp 7)))), (on 9 (.call (.const (.func 50 [] [])) [(.tmp 8)])), (on 10 (.call (.const (.func 51 [] [])) [(.tmp 9)])), (mv 2 10)]) (.ret)))⟩
theorem lf18_eq (D : Dom I S) : trFunc D (tyFn D) Tryz.f18 = some (lf18 D) := by kernel_rfl
noncomputable def lf19 (D : Dom I S) : LFunc I S := ⟨10, [.tmp 2], .seq (.region [
 (on 2 (.p (.move (ci D 0))))]) (.seq (.seq (.region [
 (mv 3 0), (on 4 (.r (.eqRef .ptr false (.tmp 3) (.const .nilp))))]) (.cond (.tmp 4) (.seq (.region [
 (on 2 (.p (.move (ci D 0))))]) (.ret)) (.skip))) (.seq (.region [
 (mv 5 0), (on 6 (.p (.nilchk (.tmp 5)))), (on 7 (.p (.fieldAddr 2 (.tmp 6)))), (on 8 (.r (.load false 1 (.tmp 7)))), (on 9 (.call (.const (.func 52 [] [])) [(.tmp 8)])), (mv 2 9)]) (.ret)))⟩
theorem lf19_eq (D : Dom I S) : trFunc D (tyFn D) Tryz.f19 = some (lf19 D) := by kernel_rfl
noncomputable def lf20 (D : Dom I S) : LFunc I S := ⟨48, [.tmp 4], .seq (.region [
 (on 4 (.p (.move (.const .nils))))]) (.seq (.seq (.region [
 (mv 9 1), (on 10 (.p (.bin .lss (.tmp 9) (ci D 0))))]) (.cond (.tmp 10) (.no) (.skip))) (.seq (.region [
 (mv 13 0), (on 14 (.p (.len (.tmp 13)))), (on 15 (.p (.convInt .u64 (.tmp 14)))), (mv 16 1), (on 17 (.p (.convInt .u64 (.tmp 16)))), (on 18 (.call (.const (.func 53 [] [])) [(.tmp 15), (.tmp 17)])), (mv 12 18), (on 19 (.p (.extract 0 (.tmp 12)))), (on 20 (.p (.extract 1 (.tmp 12)))), (mv 5 19), (mv 6 20)]) (.seq (.seq (.region [
 (mv 21 5), (on 22 (.p (.bin .gtr (.tmp 21) (.const (.int .u64 (D.ofInt (.ofNat 0))))))), (mv 23 22), ⟨⟨some 24, some (some 23, false), .p (.move (.tmp 6))⟩, []⟩,
 ⟨⟨some 25, some (some 23, false), .p (.bin .gtr (.tmp 24) (.const (.int .u64 (D.ofInt (.ofNat 9223372036854775807)))))⟩, []⟩, (on 26 (.p (.pick (.tmp 23) (.const (.bool true)) (.tmp 25))))]) (.cond (.tmp 26) (.no) (.skip))) (.seq (.region [
 (mv 28 6), (on 29 (.p (.convInt .i64 (.tmp 28)))), ⟨⟨some 30, none, .a (.mkslice [(.str (D.sOf ⟨#[]⟩))] 1 16 (.tmp 29) (.tmp 29))⟩, []⟩, (mv 7 30)]) (.seq (.region [
 (mv 31 7), (mv 32 0), (on 33 (.e (.copy 1 (.tmp 31) (.tmp 32)))), (mv 8 33)]) (.seq (.block 0 (.loop (.seq (.seq (.region [
 (mv 34 8), (mv 35 7), (on 36 (.p (.len (.tmp 35)))), (on 37 (.p (.bin .lss (.tmp 34) (.tmp 36))))]) (.cond (.tmp 37) (.skip) (.exit 0))) (.block 1 (.region [(mv 38 8), (mv 39 7), (mv 40 8), (on 41 (.p (.slSl 1 (.tmp 39) (some (.tmp 40)) none none))), (mv 42 7), (mv 43 8), (on 44 (.p (.slSl 1 (.tmp 42) none (some (.tmp 43)) none))), (on 45 (.e (.copy 1 (.tmp 41) (.tmp 44)))), (on 46 (.p (.bin .add (.tmp 38) (.tmp 45)))), (mv 8 46)]))))) (.seq (.region [
 (mv 47 7), (mv 4 47)]) (.ret))))))))⟩
theorem lf20_eq (D : Dom I S) : trFunc D (tyFn D) Tryz.f20 = some (lf20 D) := by kernel_rfl
noncomputable def lf21 (D : Dom I S) : LFunc I S := ⟨56, [.tmp 2, .tmp 3, .tmp 4], .seq (.region [
 (on 2 (.p (.move (.const .nilp)))), (on 3 (.p (.move (.const .nils)))), (on 4 (.p (.move (ci D 0))))]) (.seq (.seq (.region [
 (mv 10 0), (on 11 (.r (.eqRef .ptr false (.tmp 10) (.const .nilp))))]) (.cond (.tmp 11) (.seq (.region [
 (on 2 (.p (.move (.const .nilp)))), (on 3 (.p (.move (.const .nils)))), (on 4 (.p (.move (ci D 1))))]) (.ret)) (.skip))) (.seq (.region [
 (mv 12 0), (on 13 (.p (.build [.nilp, (vi D 0), (vi D 0), (vi D 0)] [(0, 1, (.tmp 12))]))), (on 14 (.a (.box (.tmp 13)))), (mv 5 14)]) (.seq (.region [
 (on 6 (.p (.move (.const .nils))))]) (.seq (.block 0 (.loop (.block 1 (.seq (.region [
 (mv 16 0), (mv 17 5), (on 18 (.p (.nilchk (.tmp 17)))), (on 19 (.p (.fieldAddr 2 (.tmp 18)))), (on 20 (.r (.load false 1 (.tmp 19)))), (mv 22 5), (on 23 (.p (.nilchk (.tmp 22)))), (on 24 (.p (.fieldAddr 1 (.tmp 23)))), (on 25 (.r (.load false 1 (.tmp 24)))), ⟨⟨some 21, none, .call (.const (.func 55 [] [])) [(.tmp 16), (.tmp 20)]⟩, [⟨some 25, none, .r (.load false 1 (.tmp 24))⟩]⟩, (on 26 (.call (.const (.func 54 [] [])) [(.tmp 21), (.tmp 25)])), (mv 15 26), (on 27 (.p (.extract 0 (.tmp 15)))), (on 28 (.p (.extract 1 (.tmp 15)))), (on 29 (.p (.extract 2 (.tmp 15)))), (mv 7 27), (mv 8 28), (mv 9 29)]) (.seq (.seq (.region [
 (mv 30 9), (on 31 (.p (.un .not (.tmp 30))))]) (.cond (.tmp 31) (.exit 0) (.skip))) (.seq (.region [
 (mv 32 6), (mv 33 7), ⟨⟨some 34, none, .a (.bslice [(.str (D.sOf ⟨#[]⟩))] 1 1 [(0, (.tmp 33))])⟩, []⟩, (on 35 (.e (.append 1 16 (.tmp 32) (.tmp 34)))), (mv 6 35)]) (.seq (.region [
 (mv 36 5), (on 37 (.p (.nilchk (.tmp 36)))), (on 38 (.p (.fieldAddr 2 (.tmp 37)))), (on 39 (.r (.load false 1 (.tmp 38)))), (mv 40 8), (on 41 (.p (.bin .quo (.tmp 40) (ci D 64)))), (on 42 (.p (.bin .add (.tmp 39) (.tmp 41)))), (on 43 (.p (.nilchk (.tmp 36)))), (on 44 (.p (.fieldAddr 2 (.tmp 43)))), ⟨⟨none, none, .e (.store 1 (.tmp 44) (.tmp 42))⟩, []⟩]) (.region [(mv 45 5), (on 46 (.p (.nilchk (.tmp 45)))), (on 47 (.p (.fieldAddr 1 (.tmp 46)))), (on 48 (.r (.load false 1 (.tmp 47)))), (on 49 (.p (.bin .add (.tmp 48) (ci D 1)))), (on 50 (.p (.nilchk (.tmp 45)))), (on 51 (.p (.fieldAddr 1 (.tmp 50)))), ⟨⟨none, none, .e (.store 1 (.tmp 51) (.tmp 49))⟩, []⟩])))))))) (.seq (.region [
 (mv 52 5), (on 53 (.call (.const (.func 56 [] [])) [(.tmp 52)]))]) (.seq (.region [
 (mv 54 5), (mv 55 6), (mv 2 54), (mv 3 55), (on 4 (.p (.move (ci D 0))))]) (.ret)))))))⟩
theorem lf21_eq (D : Dom I S) : trFunc D (tyFn D) Tryz.f21 = some (lf21 D) := by kernel_rfl
noncomputable def lf22 (D : Dom I S) : LFunc I S := ⟨62, [.tmp 6, .tmp 7], .seq (.region [
 (on 6 (.p (.move (.const .nils)))), (on 7 (.p (.move (.const (.bool false)))))]) (.seq (.seq (.region [
 (mv 17 1), (on 18 (.p (.len (.tmp 17)))), (on 19 (.p (.bin .eql (.tmp 18) (ci D 0))))]) (.cond (.tmp 19) (.seq (.region [
 (mv 21 2), (on 22 (.call (.const (.func 57 [] [])) [(.tmp 21)])), (mv 20 22), (on 23 (.p (.extract 0 (.tmp 20)))), (on 24 (.p (.extract 1 (.tmp 20)))), (on 8 (.a (.box (.const (.agg [(vi D 0), .nils, .nils]))))), ⟨⟨none, none, .e (.store 3 (.tmp 8) (.tmp 23))⟩, []⟩, (mv 9 24)]) (.seq (.region [
 (on 26 (.r (.load true 3 (.tmp 8)))), (on 27 (.p (.build [(vi D 0), (vi D 0), (vi D 0), (vi D 0), (.bool false), (vi D 0), .nils, .nils, .nils] [(0, 1, (ci D 0)), (5, 3, (.tmp 26))]))), (on 28 (.call (.const (.func 58 [] [])) [(.tmp 27)])), (mv 25 28), (on 29 (.p (.extract 0 (.tmp 25)))), (on 30 (.p (.extract 1 (.tmp 25)))), (mv 10 29), (mv 11 30)]) (.seq (.seq (.region [
 (mv 31 9), (on 32 (.p (.bin .neq (.tmp 31) (ci D 0)))), (mv 33 32), ⟨⟨some 34, some (some 33, false), .p (.move (.tmp 0))⟩, []⟩,
 ⟨⟨some 35, some (some 33, false), .p (.move (.tmp 10))⟩, []⟩,
 ⟨⟨some 36, some (some 33, false), .call (.const (.func 59 [] [])) [(.tmp 34), (.tmp 35)]⟩, []⟩,
 ⟨⟨some 37, some (some 33, false), .p (.bin .neq (.tmp 36) (ci D 0))⟩, []⟩, (on 38 (.p (.pick (.tmp 33) (.const (.bool true)) (.tmp 37))))]) (.cond (.tmp 38) (.seq (.region [
 (on 6 (.p (.move (.const .nils)))), (on 7 (.p (.move (.const (.bool false)))))]) (.ret)) (.skip))) (.seq (.region [
 (mv 39 0), (on 40 (.call (.const (.func 60 [] [])) [(.tmp 39)]))]) (.region [(mv 41 10), ⟨⟨some 42, none, .a (.bslice [(.str (D.sOf ⟨#[]⟩))] 1 1 [(0, (.tmp 41))])⟩, []⟩, (mv 1 42)]))))) (.skip))) (.seq (.region [
 (on 12 (.p (.move (.const .nils))))]) (.seq (.seq (.region [
 (mv 43 1), (on 44 (.p (.len (.tmp 43)))), (on 45 (.p (.move (ci D 0))))]) (.block 0 (.loop (.seq (.region [
 (on 46 (.p (.bin .lss (.tmp 45) (.tmp 44))))]) (.seq (.cond (.tmp 46) (.skip) (.exit 0)) (.seq (.block 1 (.seq (.region [
 (on 47 (.p (.idxSl 1 (.tmp 43) (.tmp 45)))), (on 48 (.r (.load false 1 (.tmp 47)))), (mv 14 48)]) (.seq (.region [
 (mv 50 14), (on 51 (.call (.const (.func 61 [] [])) [(.tmp 50)])), (mv 49 51), (on 52 (.p (.extract 0 (.tmp 49)))), (on 53 (.p (.extract 1 (.tmp 49)))), (on 15 (.a (.box (.const (.agg [(vi D 0), (vi D 0), (vi D 0), (vi D 0), (.bool false), (vi D 0), .nils, .nils, .nils]))))), ⟨⟨none, none, .e (.store 9 (.tmp 15) (.tmp 52))⟩, []⟩, (mv 16 53)]) (.seq (.seq (.region [
 (mv 54 16), (on 55 (.p (.bin .neq (.tmp 54) (ci D 0))))]) (.cond (.tmp 55) (.seq (.region [
 (on 6 (.p (.move (.const .nils)))), (on 7 (.p (.move (.const (.bool false)))))]) (.ret)) (.skip))) (.region [(mv 56 12), (on 57 (.r (.load true 9 (.tmp 15)))), (on 58 (.a (.bslice [(vi D 0), (vi D 0), (vi D 0), (vi D 0), (.bool false), (vi D 0), .nils, .nils, .nils] 1 9 [(0, (.tmp 57))]))), (on 59 (.e (.append 9 120 (.tmp 56) (.tmp 58)))), (mv 12 59)]))))) (.region [(on 60 (.p (.bin .add (.tmp 45) (ci D 1)))), (mv 45 60)]))))))) (.seq (.region [
 (mv 61 12), (mv 6 61), (on 7 (.p (.move (.const (.bool true)))))]) (.ret)))))⟩
theorem lf22_eq (D : Dom I S) : trFunc D (tyFn D) Tryz.f22 = some (lf22 D) := by kernel_rfl
noncomputable def lf23 (D : Dom I S) : LFunc I S := ⟨75, [.cell 6 true 10, .tmp 7], .seq (.region [
 (on 6 (.a (.box (.const (.agg [(vi D 0), .nils, .nils, .nils, (vi D 0), .nils, .nils, .nils, .nils, (vi D 0)]))))), (on 7 (.p (.move (ci D 0))))]) (.seq (.seq (.region [
 (mv 12 1), (on 13 (.p (.bin .lss (.tmp 12) (ci D 1)))), (mv 14 13), ⟨⟨some 15, some (some 14, false), .p (.move (.tmp 1))⟩, []⟩,
 ⟨⟨some 16, some (some 14, false), .p (.bin .gtr (.tmp 15) (ci D 8))⟩, []⟩, (on 17 (.p (.pick (.tmp 14) (.const (.bool true)) (.tmp 16)))), (mv 18 17), ⟨⟨some 19, some (some 18, false), .p (.move (.tmp 0))⟩, []⟩,
 ⟨⟨some 20, some (some 18, false), .p (.bin .lss (.tmp 19) (ci D 0))⟩, []⟩, (on 21 (.p (.pick (.tmp 18) (.const (.bool true)) (.tmp 20)))), (mv 22 21), ⟨⟨some 23, some (some 22, false), .p (.move (.tmp 0))⟩, []⟩,
 ⟨⟨some 24, some (some 22, false), .p (.move (.tmp 1))⟩, []⟩,
 ⟨⟨some 25, some (some 22, false), .p (.bin .geq (.tmp 23) (.tmp 24))⟩, []⟩, (on 26 (.p (.pick (.tmp 22) (.const (.bool true)) (.tmp 25)))), (mv 27 26), ⟨⟨some 28, some (some 27, false), .p (.move (.tmp 2))⟩, []⟩,
 ⟨⟨some 29, some (some 27, false), .p (.move (.tmp 1))⟩, []⟩,
 ⟨⟨some 30, some (some 27, false), .call (.const (.func 62 [] [])) [(.tmp 28), (.tmp 29)]⟩, []⟩,
 ⟨⟨some 31, some (some 27, false), .p (.un .not (.tmp 30))⟩, []⟩, (on 32 (.p (.pick (.tmp 27) (.const (.bool true)) (.tmp 31))))]) (.cond (.tmp 32) (.seq (.region [
 (on 33 (.p (.build [(vi D 0), .nils, .nils, .nils, (vi D 0), .nils, .nils, .nils, .nils, (vi D 0)] []))), ⟨⟨none, none, .e (.store 10 (.tmp 6) (.tmp 33))⟩, []⟩, (on 7 (.p (.move (ci D 1500))))]) (.ret)) (.skip))) (.seq (.region [
 (mv 35 0), (mv 36 1), (mv 37 2), (on 38 (.p (.idxSl 9 (.tmp 37) (ci D 0)))), (on 39 (.p (.fieldAddr 5 (.tmp 38)))), (on 40 (.r (.load true 3 (.tmp 39)))), (on 41 (.call (.const (.func 63 [] [])) [(.tmp 35), (.tmp 36), (.tmp 40)])), (mv 34 41), (on 42 (.p (.extract 0 (.tmp 34)))), (on 43 (.p (.extract 1 (.tmp 34)))), (mv 8 42), (mv 9 43)]) (.seq (.region [
 (mv 44 0), (mv 45 8), (on 46 (.p (.build [(vi D 0), (vi D 0), .nils, .nils, .nils, (vi D 0), .nils, .nils, .nils, .nils, (vi D 0), .nilp] [(0, 1, (.tmp 44)), (11, 1, (.tmp 45))]))), (on 47 (.a (.box (.tmp 46)))), (mv 10 47)]) (.seq (.seq (.region [
 (mv 48 2), (on 49 (.p (.len (.tmp 48)))), (on 50 (.p (.move (ci D 0))))]) (.block 0 (.loop (.seq (.region [
 (on 51 (.p (.bin .lss (.tmp 50) (.tmp 49))))]) (.seq (.cond (.tmp 51) (.skip) (.exit 0)) (.seq (.block 1 (.seq (.region [
 (mv 52 50), (mv 11 52)]) (.region [(mv 53 10), (mv 54 2), (mv 55 11), (on 56 (.p (.idxSl 9 (.tmp 54) (.tmp 55)))), (on 57 (.call (.const (.func 64 [] [])) [(.tmp 53), (.tmp 56)]))]))) (.region [(on 58 (.p (.bin .add (.tmp 50) (ci D 1)))), (mv 50 58)]))))))) (.seq (.region [
 (mv 59 10), (mv 60 10), (mv 61 8), (on 62 (.call (.const (.func 65 [] [])) [(.tmp 61)])), (mv 63 8), (on 64 (.call (.const (.func 51 [] [])) [(.tmp 63)])), (on 65 (.p (.nilchk (.tmp 59)))), (on 66 (.p (.fieldAddr 1 (.tmp 65)))), (on 67 (.p (.fieldAddr 0 (.tmp 66)))), ⟨⟨none, none, .e (.store 3 (.tmp 67) (.tmp 62))⟩, []⟩, (on 68 (.p (.nilchk (.tmp 60)))), (on 69 (.p (.fieldAddr 1 (.tmp 68)))), (on 70 (.p (.fieldAddr 3 (.tmp 69)))), ⟨⟨none, none, .e (.store 1 (.tmp 70) (.tmp 64))⟩, []⟩]) (.seq (.region [
 (mv 71 10), (on 72 (.p (.nilchk (.tmp 71)))), (on 73 (.p (.fieldAddr 1 (.tmp 72)))), (on 74 (.r (.load true 10 (.tmp 73)))), ⟨⟨none, none, .e (.store 10 (.tmp 6) (.tmp 74))⟩, []⟩, (on 7 (.p (.move (ci D 0))))]) (.ret)))))))⟩
theorem lf23_eq (D : Dom I S) : trFunc D (tyFn D) Tryz.f23 = some (lf23 D) := by kernel_rfl
noncomputable def lf24 (D : Dom I S) : LFunc I S := ⟨85, [.tmp 8, .tmp 9], .seq (.region [
 (on 6 (.a (.box (.tmp 2)))), (on 8 (.p (.move (.const .nilp)))), (on 9 (.p (.move (ci D 0))))]) (.seq (.seq (.region [
 (mv 15 3), (on 16 (.r (.eqRef .ptr false (.tmp 15) (.const .nilp))))]) (.cond (.tmp 16) (.seq (.region [
 (on 8 (.p (.move (.const .nilp)))), (on 9 (.p (.move (ci D 1))))]) (.ret)) (.skip))) (.seq (.region [
 (mv 18 0), (mv 19 1), (on 20 (.p (.fieldAddr 0 (.tmp 6)))), (on 21 (.r (.load true 3 (.tmp 20)))), (on 22 (.call (.const (.func 63 [] [])) [(.tmp 18), (.tmp 19), (.tmp 21)])), (mv 17 22), (on 23 (.p (.extract 0 (.tmp 17)))), (on 24 (.p (.extract 1 (.tmp 17)))), (mv 10 23), (mv 11 24)]) (.seq (.seq (.region [
 (mv 25 11), (on 26 (.p (.bin .neq (.tmp 25) (ci D 0)))), (mv 27 26), ⟨⟨some 28, some (some 27, false), .p (.fieldAddr 3 (.tmp 6))⟩, []⟩,
 ⟨⟨some 29, some (some 27, false), .r (.load false 1 (.tmp 28))⟩, []⟩,
 ⟨⟨some 30, some (some 27, false), .call (.const (.func 66 [] [])) [(.tmp 29)]⟩, []⟩,
 ⟨⟨some 31, some (some 27, false), .p (.un .not (.tmp 30))⟩, []⟩, (on 32 (.p (.pick (.tmp 27) (.const (.bool true)) (.tmp 31))))]) (.cond (.tmp 32) (.seq (.region [
 (on 8 (.p (.move (.const .nilp)))), (on 9 (.p (.move (ci D 1900))))]) (.ret)) (.skip))) (.seq (.region [
 (mv 33 10), (on 34 (.p (.fieldAddr 3 (.tmp 6)))), (on 35 (.r (.load false 1 (.tmp 34)))), (on 36 (.call (.const (.func 67 [] [])) [(.tmp 33), (.tmp 35)]))]) (.seq (.region [
 (mv 37 1), (mv 38 3), (mv 39 10), (on 41 (.p (.fieldAddr 8 (.tmp 6)))), (on 42 (.r (.load false 1 (.tmp 41)))), (on 44 (.p (.fieldAddr 4 (.tmp 6)))), (on 45 (.r (.load false 1 (.tmp 44)))), ⟨⟨some 40, none, .call (.const (.func 68 [] [])) []⟩, [⟨some 45, none, .r (.load false 1 (.tmp 44))⟩, ⟨some 42, none, .r (.load false 1 (.tmp 41))⟩]⟩, ⟨⟨some 43, none, .call (.const (.func 69 [] [])) [(.tmp 42)]⟩, [⟨some 45, none, .r (.load false 1 (.tmp 44))⟩]⟩, (on 46 (.p (.build [(vi D 0), .nilp, .nilp, .nilp, .nils, .nils, (vi D 0)] [(0, 1, (.tmp 37)), (1, 1, (.tmp 38)), (2, 1, (.tmp 39)), (3, 1, (.tmp 40)), (5, 1, (.tmp 43)), (6, 1, (.tmp 45))]))), (on 47 (.a (.box (.tmp 46)))), (mv 12 47)]) (.seq (.seq (.region [
 (on 48 (.p (.fieldAddr 5 (.tmp 6)))), (on 49 (.r (.load false 1 (.tmp 48)))), (on 50 (.p (.len (.tmp 49)))), (on 51 (.p (.move (ci D 0))))]) (.block 0 (.loop (.seq (.region [
 (on 52 (.p (.bin .lss (.tmp 51) (.tmp 50))))]) (.seq (.cond (.tmp 52) (.skip) (.exit 0)) (.seq (.block 1 (.seq (.region [
 (on 53 (.p (.idxSl 3 (.tmp 49) (.tmp 51)))), (on 54 (.r (.load true 3 (.tmp 53)))), (on 14 (.a (.box (.const (.agg [(vi D 0), (vi D 0), .nils]))))), ⟨⟨none, none, .e (.store 3 (.tmp 14) (.tmp 54))⟩, []⟩]) (.seq (.region [
 (on 55 (.p (.fieldAddr 0 (.tmp 14)))), (on 56 (.r (.load true 2 (.tmp 55)))), (on 57 (.call (.const (.func 70 [] [])) [(.tmp 56)])), (on 58 (.p (.un .not (.tmp 57)))), (mv 59 58), ⟨⟨some 60, some (some 59, false), .p (.fieldAddr 2 (.tmp 14))⟩, []⟩,
 ⟨⟨some 61, some (some 59, false), .r (.load false 1 (.tmp 60))⟩, []⟩,
 ⟨⟨some 62, some (some 59, false), .p (.move (.tmp 1))⟩, []⟩,
 ⟨⟨some 63, some (some 59, false), .call (.const (.func 71 [] [])) [(.tmp 61), (.tmp 62)]⟩, []⟩,
 ⟨⟨some 64, some (some 59, false), .p (.un .not (.tmp 63))⟩, []⟩, (on 65 (.p (.pick (.tmp 59) (.const (.bool true)) (.tmp 64)))), (mv 66 65), ⟨⟨some 67, some (some 66, false), .p (.move (.tmp 12))⟩, []⟩,
 ⟨⟨some 68, some (some 66, false), .p (.fieldAddr 0 (.tmp 14))⟩, []⟩,
 ⟨⟨some 69, some (some 66, false), .r (.load true 2 (.tmp 68))⟩, []⟩,
 ⟨⟨some 70, some (some 66, false), .p (.fieldAddr 2 (.tmp 14))⟩, []⟩,
 ⟨⟨some 71, some (some 66, false), .r (.load false 1 (.tmp 70))⟩, []⟩,
 ⟨⟨some 72, some (some 66, false), .call (.const (.func 72 [] [])) [(.tmp 67), (.tmp 69), (.tmp 71)]⟩, []⟩,
 ⟨⟨some 73, some (some 66, false), .p (.un .not (.tmp 72))⟩, []⟩, (on 74 (.p (.pick (.tmp 66) (.const (.bool true)) (.tmp 73))))]) (.cond (.tmp 74) (.seq (.region [
 (on 8 (.p (.move (.const .nilp)))), (on 9 (.p (.move (ci D 1900))))]) (.ret)) (.skip))))) (.region [(on 75 (.p (.bin .add (.tmp 51) (ci D 1)))), (mv 51 75)]))))))) (.seq (.seq (.region [
 (mv 76 3), (mv 77 12), (on 78 (.p (.nilchk (.tmp 77)))), (on 79 (.p (.fieldAddr 4 (.tmp 78)))), (on 80 (.r (.load false 1 (.tmp 79)))), (on 81 (.p (.len (.tmp 80)))), (on 82 (.call (.const (.func 73 [] [])) [(.tmp 76), (.tmp 81)])), (on 83 (.p (.un .not (.tmp 82))))]) (.cond (.tmp 83) (.seq (.region [
 (on 8 (.p (.move (.const .nilp)))), (on 9 (.p (.move (ci D 1900))))]) (.ret)) (.skip))) (.seq (.region [
 (mv 84 12), (mv 8 84), (on 9 (.p (.move (ci D 0))))]) (.ret)))))))))⟩
theorem lf24_eq (D : Dom I S) : trFunc D (tyFn D) Tryz.f24 = some (lf24 D) := by kernel_rfl
noncomputable def lf25 (D : Dom I S) : LFunc I S := ⟨171, [.tmp 10, .tmp 11, .tmp 12], .seq (.region [
 (on 7 (.a (.box (.tmp 2)))), (on 10 (.p (.move (.const .nilp)))), (on 11 (.p (.move (.const .nils)))), (on 12 (.p (.move (ci D 0))))]) (.seq (.seq (.region [
 (mv 24 3), (on 25 (.r (.eqRef .ptr false (.tmp 24) (.const .nilp)))), (mv 26 25), ⟨⟨some 27, some (some 26, false), .p (.move (.tmp 4))⟩, []⟩,
 ⟨⟨some 28, some (some 26, false), .r (.eqRef .ptr false (.tmp 27) (.const .nilp))⟩, []⟩, (on 29 (.p (.pick (.tmp 26) (.const (.bool true)) (.tmp 28))))]) (.cond (.tmp 29) (.seq (.region [
 (on 10 (.p (.move (.const .nilp)))), (on 11 (.p (.move (.const .nils)))), (on 12 (.p (.move (ci D 1))))]) (.ret)) (.skip))) (.seq (.region [
 (mv 30 0), (mv 31 1), (mv 32 3), (mv 33 4), (on 34 (.p (.fieldAddr 9 (.tmp 7)))), (on 35 (.r (.load false 1 (.tmp 34)))), (on 36 (.p (.build [(vi D 0), (vi D 0), .nilp, .nilp, (vi D 0), .nils, .nils] [(0, 1, (.tmp 30)), (1, 1, (.tmp 31)), (2, 1, (.tmp 32)), (3, 1, (.tmp 33)), (4, 1, (.tmp 35))]))), (on 37 (.a (.box (.tmp 36)))), (mv 13 37)]) (.seq (.seq (.region [
 (mv 38 1), (on 39 (.p (.bin .lss (.tmp 38) (ci D 1)))), (mv 40 39), ⟨⟨some 41, some (some 40, false), .p (.move (.tmp 1))⟩, []⟩,
 ⟨⟨some 42, some (some 40, false), .p (.bin .gtr (.tmp 41) (ci D 8))⟩, []⟩, (on 43 (.p (.pick (.tmp 40) (.const (.bool true)) (.tmp 42)))), (mv 44 43), ⟨⟨some 45, some (some 44, false), .p (.move (.tmp 0))⟩, []⟩,
 ⟨⟨some 46, some (some 44, false), .p (.bin .lss (.tmp 45) (ci D 0))⟩, []⟩, (on 47 (.p (.pick (.tmp 44) (.const (.bool true)) (.tmp 46)))), (mv 48 47), ⟨⟨some 49, some (some 48, false), .p (.move (.tmp 0))⟩, []⟩,
 ⟨⟨some 50, some (some 48, false), .p (.move (.tmp 1))⟩, []⟩,
 ⟨⟨some 51, some (some 48, false), .p (.bin .geq (.tmp 49) (.tmp 50))⟩, []⟩, (on 52 (.p (.pick (.tmp 48) (.const (.bool true)) (.tmp 51)))), (mv 53 52), ⟨⟨some 54, some (some 53, false), .p (.fieldAddr 9 (.tmp 7))⟩, []⟩,
 ⟨⟨some 55, some (some 53, false), .r (.load false 1 (.tmp 54))⟩, []⟩,
 ⟨⟨some 56, some (some 53, false), .p (.bin .lss (.tmp 55) (ci D 0))⟩, []⟩, (on 57 (.p (.pick (.tmp 53) (.const (.bool true)) (.tmp 56)))), (mv 58 57), ⟨⟨some 59, some (some 58, false), .p (.fieldAddr 9 (.tmp 7))⟩, []⟩,
 ⟨⟨some 60, some (some 58, false), .r (.load false 1 (.tmp 59))⟩, []⟩,
 ⟨⟨some 61, some (some 58, false), .p (.bin .gtr (.tmp 60) (ci D 65535))⟩, []⟩, (on 62 (.p (.pick (.tmp 58) (.const (.bool true)) (.tmp 61)))), (mv 63 62), ⟨⟨some 64, some (some 63, false), .p (.move (.tmp 13))⟩, []⟩,
 ⟨⟨some 65, some (some 63, false), .call (.const (.func 74 [] [])) [(.tmp 64), (.tmp 7)]⟩, []⟩,
 ⟨⟨some 66, some (some 63, false), .p (.un .not (.tmp 65))⟩, []⟩, (on 67 (.p (.pick (.tmp 63) (.const (.bool true)) (.tmp 66)))), (mv 68 67), ⟨⟨some 69, some (some 68, false), .p (.move (.tmp 4))⟩, []⟩,
 ⟨⟨some 70, some (some 68, false), .p (.fieldAddr 6 (.tmp 7))⟩, []⟩,
 ⟨⟨some 71, some (some 68, false), .r (.load false 1 (.tmp 70))⟩, []⟩,
 ⟨⟨some 72, some (some 68, false), .p (.len (.tmp 71))⟩, []⟩,
 ⟨⟨some 73, some (some 68, false), .p (.bin .mul (ci D 2) (.tmp 72))⟩, []⟩,
 ⟨⟨some 74, some (some 68, false), .p (.fieldAddr 7 (.tmp 7))⟩, []⟩,
 ⟨⟨some 75, some (some 68, false), .r (.load false 1 (.tmp 74))⟩, []⟩,
 ⟨⟨some 76, some (some 68, false), .p (.len (.tmp 75))⟩, []⟩,
 ⟨⟨some 77, some (some 68, false), .p (.bin .add (.tmp 73) (.tmp 76))⟩, []⟩,
 ⟨⟨some 78, some (some 68, false), .call (.const (.func 73 [] [])) [(.tmp 69), (.tmp 77)]⟩, []⟩,
 ⟨⟨some 79, some (some 68, false), .p (.un .not (.tmp 78))⟩, []⟩, (on 80 (.p (.pick (.tmp 68) (.const (.bool true)) (.tmp 79))))]) (.cond (.tmp 80) (.seq (.region [
 (on 10 (.p (.move (.const .nilp)))), (on 11 (.p (.move (.const .nils)))), (on 12 (.p (.move (ci D 2000))))]) (.ret)) (.skip))) (.seq (.seq (.region [
 (on 81 (.p (.fieldAddr 7 (.tmp 7)))), (on 82 (.r (.load false 1 (.tmp 81)))), (on 83 (.p (.len (.tmp 82)))), (on 84 (.p (.move (ci D 0))))]) (.block 0 (.loop (.seq (.region [
 (on 85 (.p (.bin .lss (.tmp 84) (.tmp 83))))]) (.seq (.cond (.tmp 85) (.skip) (.exit 0)) (.seq (.block 1 (.seq (.region [
 (on 86 (.p (.idxSl 3 (.tmp 82) (.tmp 84)))), (on 87 (.r (.load true 3 (.tmp 86)))), (on 15 (.a (.box (.const (.agg [(vi D 0), (vi D 0), (.bool false)]))))), ⟨⟨none, none, .e (.store 3 (.tmp 15) (.tmp 87))⟩, []⟩]) (.region [(mv 88 13), (mv 89 13), (on 90 (.p (.nilchk (.tmp 89)))), (on 91 (.p (.fieldAddr 6 (.tmp 90)))), (on 92 (.r (.load false 1 (.tmp 91)))), (on 93 (.r (.load true 3 (.tmp 15)))), (mv 94 0), (on 95 (.p (.bin .shl (.const (.int .u64 (D.ofInt (.ofNat 1)))) (.tmp 94)))), (on 96 (.p (.build [(vi D 0), (vi D 0), (.bool false), (.int .u64 (D.ofInt (.ofNat 0)))] [(0, 3, (.tmp 93)), (3, 1, (.tmp 95))]))), (on 97 (.a (.box (.tmp 96)))), (on 98 (.a (.bslice [.nilp] 1 1 [(0, (.tmp 97))]))), (on 99 (.e (.append 1 8 (.tmp 92) (.tmp 98)))), (on 100 (.p (.nilchk (.tmp 88)))), (on 101 (.p (.fieldAddr 6 (.tmp 100)))), ⟨⟨none, none, .e (.store 1 (.tmp 101) (.tmp 99))⟩, []⟩]))) (.region [(on 102 (.p (.bin .add (.tmp 84) (ci D 1)))), (mv 84 102)]))))))) (.seq (.seq (.region [
 (on 103 (.p (.fieldAddr 6 (.tmp 7)))), (on 104 (.r (.load false 1 (.tmp 103)))), (on 105 (.p (.len (.tmp 104)))), (on 106 (.p (.move (ci D 0))))]) (.block 2 (.loop (.seq (.region [
 (on 107 (.p (.bin .lss (.tmp 106) (.tmp 105))))]) (.seq (.cond (.tmp 107) (.skip) (.exit 2)) (.seq (.block 3 (.seq (.region [
 (on 108 (.p (.idxSl 3 (.tmp 104) (.tmp 106)))), (on 109 (.r (.load true 3 (.tmp 108)))), (on 17 (.a (.box (.const (.agg [(vi D 0), (vi D 0), .nils]))))), ⟨⟨none, none, .e (.store 3 (.tmp 17) (.tmp 109))⟩, []⟩]) (.region [(mv 110 13), (mv 111 13), (on 112 (.p (.nilchk (.tmp 111)))), (on 113 (.p (.fieldAddr 5 (.tmp 112)))), (on 114 (.r (.load false 1 (.tmp 113)))), (on 115 (.p (.fieldAddr 0 (.tmp 17)))), (on 116 (.r (.load true 2 (.tmp 115)))), (on 117 (.p (.build [(vi D 0), (vi D 0), (vi D 0), .nils, (.int .u64 (D.ofInt (.ofNat 0))), (vi D 0)] [(0, 2, (.tmp 116))]))), (on 118 (.a (.box (.tmp 117)))), (on 119 (.a (.bslice [.nilp] 1 1 [(0, (.tmp 118))]))), (on 120 (.e (.append 1 8 (.tmp 114) (.tmp 119)))), (on 121 (.p (.nilchk (.tmp 110)))), (on 122 (.p (.fieldAddr 5 (.tmp 121)))), ⟨⟨none, none, .e (.store 1 (.tmp 122) (.tmp 120))⟩, []⟩]))) (.region [(on 123 (.p (.bin .add (.tmp 106) (ci D 1)))), (mv 106 123)]))))))) (.seq (.region [
 (mv 124 13), (on 125 (.p (.nilchk (.tmp 124)))), (on 126 (.p (.fieldAddr 6 (.tmp 125)))), (on 127 (.r (.load false 1 (.tmp 126)))), (on 128 (.call (.const (.func 75 [] [])) [(.tmp 127)])), (mv 18 128)]) (.seq (.region [
 (on 19 (.p (.move (.const .nils))))]) (.seq (.block 4 (.loop (.seq (.seq (.region [
 (mv 129 13), (on 130 (.p (.nilchk (.tmp 129)))), (on 131 (.p (.fieldAddr 5 (.tmp 130)))), (on 132 (.r (.load false 1 (.tmp 131)))), (on 133 (.p (.len (.tmp 132)))), (on 134 (.p (.bin .gtr (.tmp 133) (ci D 0))))]) (.cond (.tmp 134) (.skip) (.exit 4))) (.block 5 (.region [(mv 135 19), (mv 136 13), (mv 137 13), (on 138 (.p (.nilchk (.tmp 137)))), (on 139 (.p (.fieldAddr 5 (.tmp 138)))), (on 140 (.r (.load false 1 (.tmp 139)))), (on 141 (.p (.idxSl 1 (.tmp 140) (ci D 0)))), (on 142 (.r (.load false 1 (.tmp 141)))), (on 143 (.call (.const (.func 76 [] [])) [(.tmp 136), (.tmp 142), (.const (.bool false))])), (on 144 (.e (.append 16 160 (.tmp 135) (.tmp 143)))), (mv 19 144)]))))) (.seq (.seq (.region [
 (mv 145 18), (on 146 (.p (.len (.tmp 145)))), (on 147 (.p (.move (ci D 0))))]) (.block 6 (.loop (.seq (.region [
 (on 148 (.p (.bin .lss (.tmp 147) (.tmp 146))))]) (.seq (.cond (.tmp 148) (.skip) (.exit 6)) (.seq (.block 7 (.seq (.region [
 (on 149 (.p (.idxSl 1 (.tmp 145) (.tmp 147)))), (on 150 (.r (.load false 1 (.tmp 149)))), (mv 21 150)]) (.region [(mv 151 19), (mv 152 13), (mv 153 21), (on 154 (.call (.const (.func 77 [] [])) [(.tmp 152), (.tmp 153)])), (on 155 (.e (.append 16 160 (.tmp 151) (.tmp 154)))), (mv 19 155)]))) (.region [(on 156 (.p (.bin .add (.tmp 147) (ci D 1)))), (mv 147 156)]))))))) (.seq (.seq (.region [
 (mv 157 13), (on 158 (.call (.const (.func 78 [] [])) [(.tmp 157)]))]) (.cond (.tmp 158) (.seq (.region [
 (mv 159 18), (on 160 (.p (.len (.tmp 159)))), (on 161 (.p (.move (ci D 0))))]) (.block 8 (.loop (.seq (.region [
 (on 162 (.p (.bin .lss (.tmp 161) (.tmp 160))))]) (.seq (.cond (.tmp 162) (.skip) (.exit 8)) (.seq (.block 9 (.seq (.region [
 (on 163 (.p (.idxSl 1 (.tmp 159) (.tmp 161)))), (on 164 (.r (.load false 1 (.tmp 163)))), (mv 23 164)]) (.region [(mv 165 13), (mv 166 23), (on 167 (.call (.const (.func 79 [] [])) [(.tmp 165), (.tmp 166)]))]))) (.region [(on 168 (.p (.bin .add (.tmp 161) (ci D 1)))), (mv 161 168)]))))))) (.skip))) (.seq (.region [
 (mv 169 13), (mv 170 19), (mv 10 169), (mv 11 170), (on 12 (.p (.move (ci D 0))))]) (.ret))))))))))))⟩
theorem lf25_eq (D : Dom I S) : trFunc D (tyFn D) Tryz.f25 = some (lf25 D) := by kernel_rfl
noncomputable def lf26 (D : Dom I S) : LFunc I S := ⟨21, [.tmp 2], .seq (.region [
 (on 1 (.a (.box (.tmp 0)))), (on 2 (.p (.move (.const (.bool false)))))]) (.seq (.region [
 (on 3 (.p (.fieldAddr 0 (.tmp 1)))), (on 4 (.r (.load false 1 (.tmp 3)))), (on 5 (.p (.bin .geq (.tmp 4) (ci D 0)))), (mv 6 5), ⟨⟨some 7, some (some 6, true), .p (.fieldAddr 0 (.tmp 1))⟩, []⟩,
 ⟨⟨some 8, some (some 6, true), .r (.load false 1 (.tmp 7))⟩, []⟩,
 ⟨⟨some 9, some (some 6, true), .p (.bin .leq (.tmp 8) (ci D 4294967295))⟩, []⟩, (on 10 (.p (.pick (.tmp 6) (.tmp 9) (.const (.bool false))))), (mv 11 10), ⟨⟨some 12, some (some 11, true), .p (.fieldAddr 1 (.tmp 1))⟩, []⟩,
 ⟨⟨some 13, some (some 11, true), .r (.load false 1 (.tmp 12))⟩, []⟩,
 ⟨⟨some 14, some (some 11, true), .p (.bin .geq (.tmp 13) (ci D 0))⟩, []⟩, (on 15 (.p (.pick (.tmp 11) (.tmp 14) (.const (.bool false))))), (mv 16 15), ⟨⟨some 17, some (some 16, true), .p (.fieldAddr 1 (.tmp 1))⟩, []⟩,
 ⟨⟨some 18, some (some 16, true), .r (.load false 1 (.tmp 17))⟩, []⟩,
 ⟨⟨some 19, some (some 16, true), .p (.bin .leq (.tmp 18) (ci D 4294967295))⟩, []⟩, (on 20 (.p (.pick (.tmp 16) (.tmp 19) (.const (.bool false))))), (mv 2 20)]) (.ret))⟩
theorem lf26_eq (D : Dom I S) : trFunc D (tyFn D) Tryz.f26 = some (lf26 D) := by kernel_rfl
noncomputable def lf27 (D : Dom I S) : LFunc I S := ⟨103, [.tmp 2, .tmp 3], .seq (.region [
 (on 1 (.a (.box (.tmp 0)))), ⟨⟨some 2, none, .p (.move (.const (.str (D.sOf ⟨#[]⟩))))⟩, []⟩, (on 3 (.p (.move (ci D 0))))]) (.seq (.region [
 (on 11 (.call (.const (.func 80 [] [])) [(.tmp 1)])), (mv 10 11), (on 12 (.p (.extract 0 (.tmp 10)))), (on 13 (.p (.extract 1 (.tmp 10)))), (on 4 (.a (.box (.const (.agg [(.bool false), (.bool false), (.bool false), (.bool false), (.bool false)]))))), ⟨⟨none, none, .e (.store 5 (.tmp 4) (.tmp 12))⟩, []⟩, (mv 5 13)]) (.seq (.seq (.region [
 (mv 14 5), (on 15 (.p (.un .not (.tmp 14))))]) (.cond (.tmp 15) (.seq (.region [
 ⟨⟨some 2, none, .p (.move (.const (.str (D.sOf ⟨#[]⟩))))⟩, []⟩, (on 3 (.p (.move (ci D 1600))))]) (.ret)) (.skip))) (.seq (.region [
 (on 16 (.a (.bslice [(.int .u8 (D.ofInt (.ofNat 0)))] 2 1 [(0, (.const (.int .u8 (D.ofInt (.ofNat 77))))), (1, (.const (.int .u8 (D.ofInt (.ofNat 83)))))]))), (on 17 (.e (.mark (.tmp 16)))), (on 18 (.p (.build [.nils] [(0, 1, (.tmp 17))]))), (on 19 (.a (.box (.tmp 18)))), (mv 6 19)]) (.seq (.seq (.region [
 (on 20 (.p (.fieldAddr 0 (.tmp 1)))), (on 21 (.r (.load false 1 (.tmp 20)))), (on 22 (.p (.fieldAddr 1 (.tmp 1)))), (on 23 (.r (.load false 1 (.tmp 22)))), (on 24 (.p (.fieldAddr 2 (.tmp 1)))), (on 25 (.r (.load false 1 (.tmp 24)))), (on 26 (.p (.build [(vi D 0), (vi D 0), (vi D 0)] [(0, 1, (.tmp 21)), (1, 1, (.tmp 23)), (2, 1, (.tmp 25))]))), (on 27 (.p (.move (ci D 0))))]) (.block 0 (.loop (.seq (.region [
 (on 28 (.p (.bin .lss (.tmp 27) (ci D 3))))]) (.seq (.cond (.tmp 28) (.skip) (.exit 0)) (.seq (.block 1 (.seq (.region [
 (on 29 (.p (.idxArr 3 1 false (.tmp 26) (.tmp 27)))), (mv 8 29)]) (.region [(mv 30 6), (mv 31 8), (on 32 (.call (.const (.func 81 [] [])) [(.tmp 30), (.tmp 31), (ci D 1)]))]))) (.region [(on 33 (.p (.bin .add (.tmp 27) (ci D 1)))), (mv 27 33)]))))))) (.seq (.seq (.region [
 (on 34 (.p (.fieldAddr 0 (.tmp 4)))), (on 35 (.r (.load false 1 (.tmp 34))))]) (.cond (.tmp 35) (.region [(mv 36 6), (on 37 (.p (.fieldAddr 3 (.tmp 1)))), (on 38 (.r (.load true 2 (.tmp 37)))), (on 39 (.call (.const (.func 82 [] [])) [(.tmp 36), (.tmp 38)]))]) (.skip))) (.seq (.seq (.region [
 (on 40 (.p (.fieldAddr 1 (.tmp 4)))), (on 41 (.r (.load false 1 (.tmp 40))))]) (.cond (.tmp 41) (.region [(mv 42 6), (on 43 (.p (.fieldAddr 5 (.tmp 1)))), (on 44 (.r (.load false 1 (.tmp 43)))), (on 45 (.p (.fieldAddr 14 (.tmp 1)))), (on 46 (.r (.load false 1 (.tmp 45)))), (on 47 (.call (.const (.func 83 [] [])) [(.tmp 42), (.tmp 44), (.tmp 46)]))]) (.skip))) (.seq (.seq (.region [
 (on 48 (.p (.fieldAddr 2 (.tmp 4)))), (on 49 (.r (.load false 1 (.tmp 48))))]) (.cond (.tmp 49) (.region [(mv 50 6), (on 51 (.p (.fieldAddr 6 (.tmp 1)))), (on 52 (.r (.load false 1 (.tmp 51)))), (on 53 (.call (.const (.func 84 [] [])) [(.tmp 50), (.tmp 52)]))]) (.skip))) (.seq (.seq (.region [
 (on 54 (.p (.fieldAddr 3 (.tmp 4)))), (on 55 (.r (.load false 1 (.tmp 54))))]) (.cond (.tmp 55) (.seq (.region [
 (mv 56 6), (on 57 (.p (.fieldAddr 7 (.tmp 1)))), (on 58 (.r (.load false 1 (.tmp 57)))), (on 59 (.call (.const (.func 81 [] [])) [(.tmp 56), (.tmp 58), (ci D 2)]))]) (.region [(mv 60 6), (on 61 (.p (.fieldAddr 10 (.tmp 1)))), (on 62 (.r (.load true 4 (.tmp 61)))), (on 63 (.call (.const (.func 85 [] [])) [(.tmp 60), (.tmp 62)]))])) (.skip))) (.seq (.seq (.region [
 (on 64 (.p (.fieldAddr 4 (.tmp 4)))), (on 65 (.r (.load false 1 (.tmp 64))))]) (.cond (.tmp 65) (.seq (.region [
 (mv 66 6), (on 67 (.p (.fieldAddr 8 (.tmp 1)))), (on 68 (.r (.load false 1 (.tmp 67)))), (on 69 (.call (.const (.func 81 [] [])) [(.tmp 66), (.tmp 68), (ci D 4)]))]) (.seq (.region [
 (mv 70 6), (on 71 (.p (.fieldAddr 9 (.tmp 1)))), (on 72 (.r (.load false 1 (.tmp 71)))), (on 73 (.call (.const (.func 84 [] [])) [(.tmp 70), (.tmp 72)]))]) (.seq (.region [
 (mv 74 6), (on 75 (.p (.fieldAddr 15 (.tmp 1)))), (on 76 (.r (.load false 1 (.tmp 75)))), (on 77 (.p (.len (.tmp 76)))), (on 78 (.call (.const (.func 81 [] [])) [(.tmp 74), (.tmp 77), (ci D 2)]))]) (.seq (.region [
 (on 79 (.p (.fieldAddr 15 (.tmp 1)))), (on 80 (.r (.load false 1 (.tmp 79)))), (on 81 (.p (.len (.tmp 80)))), (on 82 (.p (.move (ci D 0))))]) (.block 2 (.loop (.seq (.region [
 (on 83 (.p (.bin .lss (.tmp 82) (.tmp 81))))]) (.seq (.cond (.tmp 83) (.skip) (.exit 2)) (.seq (.block 3 (.seq (.region [
 (mv 84 82), (mv 9 84)]) (.region [(mv 85 6), (on 86 (.p (.fieldAddr 15 (.tmp 1)))), (on 87 (.r (.load false 1 (.tmp 86)))), (mv 88 9), (on 89 (.p (.idxSl 3 (.tmp 87) (.tmp 88)))), (on 90 (.call (.const (.func 86 [] [])) [(.tmp 85), (.tmp 89)]))]))) (.region [(on 91 (.p (.bin .add (.tmp 82) (ci D 1)))), (mv 82 91)])))))))))) (.skip))) (.seq (.seq (.region [
 (mv 92 6), (on 93 (.p (.nilchk (.tmp 92)))), (on 94 (.p (.fieldAddr 0 (.tmp 93)))), (on 95 (.r (.load false 1 (.tmp 94)))), (on 96 (.p (.len (.tmp 95)))), (on 97 (.p (.bin .gtr (.tmp 96) (ci D 16384))))]) (.cond (.tmp 97) (.seq (.region [
 ⟨⟨some 2, none, .p (.move (.const (.str (D.sOf ⟨#[]⟩))))⟩, []⟩, (on 3 (.p (.move (ci D 1600))))]) (.ret)) (.skip))) (.seq (.region [
 (mv 98 6), (on 99 (.p (.nilchk (.tmp 98)))), (on 100 (.p (.fieldAddr 0 (.tmp 99)))), (on 101 (.r (.load false 1 (.tmp 100)))), (on 102 (.r (.ofBytes (.tmp 101)))), (mv 2 102), (on 3 (.p (.move (ci D 0))))]) (.ret))))))))))))⟩
theorem lf27_eq (D : Dom I S) : trFunc D (tyFn D) Tryz.f27 = some (lf27 D) := by kernel_rfl
noncomputable def lf28 (D : Dom I S) : LFunc I S := ⟨96, [.tmp 4], .seq (.region [
 (on 3 (.a (.box (.tmp 1)))), (on 4 (.p (.move (.const .nils))))]) (.seq (.seq (.region [
 (on 6 (.r (.load false 1 (.tmp 3)))), (on 7 (.p (.nilchk (.tmp 6)))), (on 8 (.p (.fieldAddr 0 (.tmp 7)))), (on 9 (.r (.load false 1 (.tmp 8))))]) (.block 0 (.seq (.region [
 (on 31 (.p (.bin .eql (.tmp 9) (ci D 0)))), (mv 30 31)]) (.cond (.tmp 30) (.seq (.region [
 (mv 32 0), (on 33 (.r (.load false 1 (.tmp 3)))), (on 34 (.call (.const (.func 87 [] [])) [(.tmp 32), (.tmp 33)])), (mv 4 34)]) (.ret)) (.seq (.region [
 (on 36 (.p (.bin .eql (.tmp 9) (ci D 1)))), (mv 35 36)]) (.cond (.tmp 35) (.seq (.region [
 (mv 37 0), (on 38 (.p (.nilchk (.tmp 37)))), (on 39 (.p (.fieldAddr 3 (.tmp 38)))), (on 40 (.r (.load false 1 (.tmp 39)))), (on 41 (.r (.load false 1 (.tmp 3)))), (on 42 (.p (.nilchk (.tmp 41)))), (on 43 (.p (.fieldAddr 1 (.tmp 42)))), (on 44 (.r (.load false 1 (.tmp 43)))), (on 45 (.r (.load false 1 (.tmp 3)))), (on 46 (.p (.nilchk (.tmp 45)))), (on 47 (.p (.fieldAddr 3 (.tmp 46)))), (on 48 (.r (.load true 2 (.tmp 47)))), (on 49 (.r (.load false 1 (.tmp 3)))), (on 50 (.p (.nilchk (.tmp 49)))), (on 51 (.p (.fieldAddr 6 (.tmp 50)))), (on 52 (.r (.load false 1 (.tmp 51)))), (on 53 (.call (.const (.func 88 [] [])) [(.tmp 40), (.tmp 44), (.tmp 48), (.tmp 52)])), (mv 4 53)]) (.ret)) (.seq (.region [
 (on 55 (.p (.bin .eql (.tmp 9) (ci D 2)))), (mv 54 55)]) (.cond (.tmp 54) (.seq (.region [
 (mv 56 0), (on 57 (.r (.load false 1 (.tmp 3)))), (on 58 (.call (.const (.func 89 [] [])) [(.tmp 56), (.tmp 57)])), (mv 4 58)]) (.ret)) (.seq (.region [
 (on 60 (.p (.bin .eql (.tmp 9) (ci D 3)))), (mv 59 60)]) (.cond (.tmp 59) (.region [(mv 61 0), (on 62 (.p (.nilchk (.tmp 61)))), (on 63 (.p (.fieldAddr 3 (.tmp 62)))), (on 64 (.r (.load false 1 (.tmp 63)))), (on 65 (.r (.load false 1 (.tmp 3)))), (on 66 (.p (.nilchk (.tmp 65)))), (on 67 (.p (.fieldAddr 1 (.tmp 66)))), (on 68 (.r (.load false 1 (.tmp 67)))), (on 69 (.r (.load false 1 (.tmp 3)))), (on 70 (.p (.nilchk (.tmp 69)))), (on 71 (.p (.fieldAddr 3 (.tmp 70)))), (on 72 (.r (.load true 2 (.tmp 71)))), (on 73 (.call (.const (.func 90 [] [])) [(.tmp 64), (.tmp 68), (.tmp 72)]))]) (.seq (.region [
 (on 75 (.p (.bin .eql (.tmp 9) (ci D 4)))), (mv 74 75)]) (.cond (.tmp 74) (.seq (.region [
 (mv 76 0), (on 77 (.r (.load false 1 (.tmp 3)))), (on 78 (.call (.const (.func 91 [] [])) [(.tmp 76), (.tmp 77)])), (mv 4 78)]) (.ret)) (.seq (.region [
 (on 80 (.p (.bin .eql (.tmp 9) (ci D 5)))), (mv 79 80)]) (.cond (.tmp 79) (.seq (.region [
 (mv 81 0), (on 82 (.r (.load false 1 (.tmp 3)))), (on 83 (.p (.nilchk (.tmp 82)))), (on 84 (.p (.fieldAddr 1 (.tmp 83)))), (on 85 (.r (.load false 1 (.tmp 84)))), (on 86 (.r (.load false 1 (.tmp 3)))), (on 87 (.p (.nilchk (.tmp 86)))), (on 88 (.p (.fieldAddr 7 (.tmp 87)))), (on 89 (.r (.load false 1 (.tmp 88)))), (on 90 (.r (.load false 1 (.tmp 3)))), (on 91 (.p (.nilchk (.tmp 90)))), (on 92 (.p (.fieldAddr 10 (.tmp 91)))), (on 93 (.r (.load true 4 (.tmp 92)))), (on 94 (.call (.const (.func 44 [] [])) [(.tmp 81), (.tmp 85), (.tmp 89), (.tmp 93)])), (on 95 (.a (.bslice [(vi D 0), (vi D 0), (vi D 0), (vi D 0), (vi D 0), (vi D 0), (.bool false), (vi D 0), (vi D 0), (.bool false), (vi D 0), (vi D 0), (vi D 0), (vi D 0), .nils, .nils] 1 16 [(0, (.tmp 94))]))), (mv 4 95)]) (.ret)) (.seq (.region [
 (mv 10 0), (on 11 (.p (.nilchk (.tmp 10)))), (on 12 (.p (.fieldAddr 5 (.tmp 11)))), (on 13 (.r (.load false 1 (.tmp 12)))), (on 14 (.p (.mkfunc 93 [] [(.tmp 3)]))), (on 15 (.call (.const (.func 92 [] [])) [(.tmp 13), (.tmp 14)])), (mv 5 15)]) (.seq (.region [
 (mv 16 5), (on 17 (.p (.bin .geq (.tmp 16) (ci D 0))))]) (.cond (.tmp 17) (.seq (.region [
 (mv 18 0), (mv 19 0), (on 20 (.p (.nilchk (.tmp 19)))), (on 21 (.p (.fieldAddr 5 (.tmp 20)))), (on 22 (.r (.load false 1 (.tmp 21)))), (mv 23 5), (on 24 (.p (.idxSl 1 (.tmp 22) (.tmp 23)))), (on 25 (.r (.load false 1 (.tmp 24)))), (on 26 (.r (.load false 1 (.tmp 3)))), (on 27 (.p (.nilchk (.tmp 26)))), (on 28 (.r (.load true 16 (.tmp 27)))), (on 29 (.call (.const (.func 43 [] [])) [(.tmp 18), (.tmp 25), (.tmp 28)])), (mv 4 29)]) (.ret)) (.skip)))))))))))))))))) (.seq (.region [
 (on 4 (.p (.move (.const .nils))))]) (.ret)))⟩
theorem lf28_eq (D : Dom I S) : trFunc D (tyFn D) Tryz.f28 = some (lf28 D) := by kernel_rfl
noncomputable def lf29 (D : Dom I S) : LFunc I S := ⟨50, [], .seq (.region [
 (on 2 (.p (.move (.const .nils))))]) (.seq (.seq (.region [
 (mv 7 0), (on 8 (.p (.nilchk (.tmp 7)))), (on 9 (.p (.fieldAddr 6 (.tmp 8)))), (on 10 (.r (.load false 1 (.tmp 9)))), (on 11 (.p (.len (.tmp 10)))), (on 12 (.p (.move (ci D 0))))]) (.block 0 (.loop (.seq (.region [
 (on 13 (.p (.bin .lss (.tmp 12) (.tmp 11))))]) (.seq (.cond (.tmp 13) (.skip) (.exit 0)) (.seq (.block 1 (.seq (.region [
 (on 14 (.p (.idxSl 3 (.tmp 10) (.tmp 12)))), (on 15 (.r (.load true 3 (.tmp 14)))), (on 4 (.a (.box (.const (.agg [(vi D 0), (vi D 0), (vi D 0)]))))), ⟨⟨none, none, .e (.store 3 (.tmp 4) (.tmp 15))⟩, []⟩]) (.seq (.region [
 (mv 17 0), (on 18 (.p (.nilchk (.tmp 17)))), (on 19 (.p (.fieldAddr 2 (.tmp 18)))), (on 20 (.r (.load false 1 (.tmp 19)))), (on 21 (.p (.fieldAddr 1 (.tmp 4)))), (on 22 (.r (.load true 2 (.tmp 21)))), (on 23 (.call (.const (.func 94 [] [])) [(.tmp 20), (.tmp 22)])), (mv 16 23), (on 24 (.p (.extract 0 (.tmp 16)))), (on 25 (.p (.extract 1 (.tmp 16)))), (mv 5 24), (mv 6 25)]) (.block 2 (.seq (.region [
 (mv 32 5), (on 33 (.p (.un .not (.tmp 32)))), (mv 31 33)]) (.cond (.tmp 31) (.region [(mv 34 2), (on 35 (.r (.load true 3 (.tmp 4)))), (on 36 (.a (.bslice [(vi D 0), (vi D 0), (vi D 0)] 1 3 [(0, (.tmp 35))]))), (on 37 (.e (.append 3 24 (.tmp 34) (.tmp 36)))), (mv 2 37)]) (.seq (.region [
 (mv 39 6), (mv 38 39)]) (.cond (.tmp 38) (.region [(mv 40 0), (on 41 (.p (.fieldAddr 0 (.tmp 4)))), (on 42 (.r (.load false 1 (.tmp 41)))), (on 43 (.p (.build [(vi D 0), (vi D 0), .nils] [(1, 1, (ci D 0))]))), (on 44 (.call (.const (.func 95 [] [])) [(.tmp 40), (.tmp 42), (.tmp 43)]))]) (.region [(mv 26 0), (on 27 (.p (.fieldAddr 0 (.tmp 4)))), (on 28 (.r (.load false 1 (.tmp 27)))), (on 29 (.p (.build [(vi D 0), (vi D 0), .nils] [(1, 1, (ci D 1))]))), (on 30 (.call (.const (.func 95 [] [])) [(.tmp 26), (.tmp 28), (.tmp 29)]))]))))))))) (.region [(on 45 (.p (.bin .add (.tmp 12) (ci D 1)))), (mv 12 45)]))))))) (.region [(mv 46 0), (mv 47 2), (on 48 (.p (.nilchk (.tmp 46)))), (on 49 (.p (.fieldAddr 6 (.tmp 48)))), ⟨⟨none, none, .e (.store 1 (.tmp 49) (.tmp 47))⟩, []⟩]))⟩
theorem lf29_eq (D : Dom I S) : trFunc D (tyFn D) Tryz.f29 = some (lf29 D) := by kernel_rfl
noncomputable def lf30 (D : Dom I S) : LFunc I S := ⟨51, [.tmp 2], .seq (.region [
 (on 1 (.a (.box (.tmp 0)))), (on 2 (.p (.move (.const (.bool false)))))]) (.seq (.seq (.region [
 (on 4 (.p (.fieldAddr 0 (.tmp 1)))), (on 5 (.r (.load false 1 (.tmp 4)))), (on 6 (.p (.bin .lss (.tmp 5) (ci D 1)))), (mv 7 6), ⟨⟨some 8, some (some 7, false), .p (.fieldAddr 0 (.tmp 1))⟩, []⟩,
 ⟨⟨some 9, some (some 7, false), .r (.load false 1 (.tmp 8))⟩, []⟩,
 ⟨⟨some 10, some (some 7, false), .p (.bin .gtr (.tmp 9) (ci D 65535))⟩, []⟩, (on 11 (.p (.pick (.tmp 7) (.const (.bool true)) (.tmp 10)))), (mv 12 11), ⟨⟨some 13, some (some 12, false), .p (.fieldAddr 2 (.tmp 1))⟩, []⟩,
 ⟨⟨some 14, some (some 12, false), .r (.load false 1 (.tmp 13))⟩, []⟩,
 ⟨⟨some 15, some (some 12, false), .p (.len (.tmp 14))⟩, []⟩,
 ⟨⟨some 16, some (some 12, false), .p (.bin .lss (.tmp 15) (ci D 1))⟩, []⟩, (on 17 (.p (.pick (.tmp 12) (.const (.bool true)) (.tmp 16)))), (mv 18 17), ⟨⟨some 19, some (some 18, false), .p (.fieldAddr 2 (.tmp 1))⟩, []⟩,
 ⟨⟨some 20, some (some 18, false), .r (.load false 1 (.tmp 19))⟩, []⟩,
 ⟨⟨some 21, some (some 18, false), .p (.len (.tmp 20))⟩, []⟩,
 ⟨⟨some 22, some (some 18, false), .p (.bin .gtr (.tmp 21) (ci D 4))⟩, []⟩, (on 23 (.p (.pick (.tmp 18) (.const (.bool true)) (.tmp 22)))), (mv 24 23), ⟨⟨some 25, some (some 24, false), .p (.fieldAddr 1 (.tmp 1))⟩, []⟩,
 ⟨⟨some 26, some (some 24, false), .r (.load false 1 (.tmp 25))⟩, []⟩,
 ⟨⟨some 27, some (some 24, false), .p (.bin .neq (.tmp 26) (ci D 2))⟩, []⟩,
 ⟨⟨some 28, some (some 24, false), .p (.move (.tmp 27))⟩, []⟩,
 ⟨⟨some 29, some (some 28, true), .p (.fieldAddr 2 (.tmp 1))⟩, []⟩,
 ⟨⟨some 30, some (some 28, true), .r (.load false 1 (.tmp 29))⟩, []⟩,
 ⟨⟨some 31, some (some 28, true), .p (.len (.tmp 30))⟩, []⟩,
 ⟨⟨some 32, some (some 28, true), .p (.bin .neq (.tmp 31) (ci D 1))⟩, []⟩,
 ⟨⟨some 33, some (some 24, false), .p (.pick (.tmp 28) (.tmp 32) (.const (.bool false)))⟩, []⟩, (on 34 (.p (.pick (.tmp 24) (.const (.bool true)) (.tmp 33))))]) (.cond (.tmp 34) (.seq (.region [
 (on 2 (.p (.move (.const (.bool false)))))]) (.ret)) (.skip))) (.seq (.seq (.region [
 (on 3 (.p (.move (ci D 0))))]) (.block 0 (.loop (.seq (.seq (.region [
 (mv 35 3), (on 36 (.p (.fieldAddr 2 (.tmp 1)))), (on 37 (.r (.load false 1 (.tmp 36)))), (on 38 (.p (.len (.tmp 37)))), (on 39 (.p (.bin .lss (.tmp 35) (.tmp 38))))]) (.cond (.tmp 39) (.skip) (.exit 0))) (.seq (.block 1 (.seq (.region [
 (on 42 (.p (.fieldAddr 1 (.tmp 1)))), (on 43 (.r (.load false 1 (.tmp 42)))), (on 44 (.p (.fieldAddr 2 (.tmp 1)))), (on 45 (.r (.load false 1 (.tmp 44)))), (mv 46 3), (on 47 (.p (.idxSl 1 (.tmp 45) (.tmp 46)))), (on 48 (.r (.load false 1 (.tmp 47)))), (on 49 (.call (.const (.func 96 [] [])) [(.tmp 43), (.tmp 48)])), (on 50 (.p (.un .not (.tmp 49))))]) (.cond (.tmp 50) (.seq (.region [
 (on 2 (.p (.move (.const (.bool false)))))]) (.ret)) (.skip)))) (.region [(mv 40 3), (on 41 (.p (.bin .add (.tmp 40) (ci D 1)))), (mv 3 41)])))))) (.seq (.region [
 (on 2 (.p (.move (.const (.bool true)))))]) (.ret))))⟩
theorem lf30_eq (D : Dom I S) : trFunc D (tyFn D) Tryz.f30 = some (lf30 D) := by kernel_rfl
noncomputable def lf31 (D : Dom I S) : LFunc I S := ⟨68, [.tmp 2], .seq (.region [
 (on 1 (.a (.box (.tmp 0)))), (on 2 (.p (.move (.const .nils))))]) (.seq (.region [
 (on 3 (.p (.move (.const .nils))))]) (.seq (.seq (.region [
 (on 4 (.p (.move (ci D 0))))]) (.block 0 (.loop (.seq (.seq (.region [
 (mv 7 4), (on 8 (.p (.fieldAddr 2 (.tmp 1)))), (on 9 (.r (.load false 1 (.tmp 8)))), (on 10 (.p (.len (.tmp 9)))), (on 11 (.p (.bin .lss (.tmp 7) (.tmp 10))))]) (.cond (.tmp 11) (.skip) (.exit 0))) (.seq (.block 1 (.seq (.region [
 (on 14 (.p (.fieldAddr 2 (.tmp 1)))), (on 15 (.r (.load false 1 (.tmp 14)))), (mv 16 4), (on 17 (.p (.idxSl 1 (.tmp 15) (.tmp 16)))), (on 18 (.r (.load false 1 (.tmp 17)))), (mv 5 18)]) (.seq (.seq (.region [
 (on 6 (.p (.move (ci D 1))))]) (.block 2 (.loop (.seq (.seq (.region [
 (mv 19 6), (mv 20 5), (on 21 (.p (.len (.tmp 20)))), (on 22 (.p (.bin .lss (.tmp 19) (.tmp 21))))]) (.cond (.tmp 22) (.skip) (.exit 2))) (.seq (.block 3 (.region [(mv 25 3), (mv 26 5), (mv 27 6), (on 28 (.p (.bin .sub (.tmp 27) (ci D 1)))), (on 29 (.p (.idxSl 2 (.tmp 26) (.tmp 28)))), (on 30 (.r (.load true 2 (.tmp 29)))), (mv 31 5), (mv 32 6), (on 33 (.p (.idxSl 2 (.tmp 31) (.tmp 32)))), (on 34 (.r (.load true 2 (.tmp 33)))), (on 35 (.p (.build [(vi D 0), (vi D 0), (vi D 0), (vi D 0)] [(0, 2, (.tmp 30)), (2, 2, (.tmp 34))]))), (on 36 (.a (.bslice [(vi D 0), (vi D 0), (vi D 0), (vi D 0)] 1 4 [(0, (.tmp 35))]))), (on 37 (.e (.append 4 32 (.tmp 25) (.tmp 36)))), (mv 3 37)])) (.region [(mv 23 6), (on 24 (.p (.bin .add (.tmp 23) (ci D 1)))), (mv 6 24)])))))) (.seq (.region [
 (on 38 (.p (.fieldAddr 1 (.tmp 1)))), (on 39 (.r (.load false 1 (.tmp 38))))]) (.block 4 (.seq (.region [
 (on 41 (.p (.bin .eql (.tmp 39) (ci D 0)))), (mv 40 41)]) (.cond (.tmp 40) (.region [(mv 42 3), (mv 43 5), (on 44 (.p (.idxSl 2 (.tmp 43) (ci D 0)))), (on 45 (.r (.load true 2 (.tmp 44)))), (mv 46 5), (on 47 (.p (.idxSl 2 (.tmp 46) (ci D 0)))), (on 48 (.r (.load true 2 (.tmp 47)))), (on 49 (.p (.build [(vi D 0), (vi D 0), (vi D 0), (vi D 0)] [(0, 2, (.tmp 45)), (2, 2, (.tmp 48))]))), (on 50 (.a (.bslice [(vi D 0), (vi D 0), (vi D 0), (vi D 0)] 1 4 [(0, (.tmp 49))]))), (on 51 (.e (.append 4 32 (.tmp 42) (.tmp 50)))), (mv 3 51)]) (.seq (.region [
 (on 53 (.p (.bin .eql (.tmp 39) (ci D 2)))), (mv 52 53)]) (.cond (.tmp 52) (.region [(mv 54 3), (mv 55 5), (mv 56 5), (on 57 (.p (.len (.tmp 56)))), (on 58 (.p (.bin .sub (.tmp 57) (ci D 1)))), (on 59 (.p (.idxSl 2 (.tmp 55) (.tmp 58)))), (on 60 (.r (.load true 2 (.tmp 59)))), (mv 61 5), (on 62 (.p (.idxSl 2 (.tmp 61) (ci D 0)))), (on 63 (.r (.load true 2 (.tmp 62)))), (on 64 (.p (.build [(vi D 0), (vi D 0), (vi D 0), (vi D 0)] [(0, 2, (.tmp 60)), (2, 2, (.tmp 63))]))), (on 65 (.a (.bslice [(vi D 0), (vi D 0), (vi D 0), (vi D 0)] 1 4 [(0, (.tmp 64))]))), (on 66 (.e (.append 4 32 (.tmp 54) (.tmp 65)))), (mv 3 66)]) (.skip)))))))))) (.region [(mv 12 4), (on 13 (.p (.bin .add (.tmp 12) (ci D 1)))), (mv 4 13)])))))) (.seq (.region [
 (mv 67 3), (mv 2 67)]) (.ret))))⟩
theorem lf31_eq (D : Dom I S) : trFunc D (tyFn D) Tryz.f31 = some (lf31 D) := by kernel_rfl
noncomputable def lf32 (D : Dom I S) : LFunc I S := ⟨24, [.cell 2 true 8], .seq (.region [
 (on 1 (.a (.box (.tmp 0)))), (on 2 (.a (.box (.const (.agg [(vi D 0), (vi D 0), (vi D 0), (vi D 0), (vi D 0), (vi D 0), (vi D 0), (vi D 0)])))))]) (.seq (.region [
 (on 3 (.p (.fieldAddr 0 (.tmp 1)))), (on 4 (.r (.load false 1 (.tmp 3)))), (on 5 (.p (.fieldAddr 1 (.tmp 1)))), (on 6 (.r (.load false 1 (.tmp 5)))), (on 7 (.p (.build [(vi D 0), (vi D 0)] [(0, 1, (.tmp 4)), (1, 1, (.tmp 6))]))), (on 8 (.p (.fieldAddr 2 (.tmp 1)))), (on 9 (.r (.load false 1 (.tmp 8)))), (on 10 (.p (.fieldAddr 1 (.tmp 1)))), (on 11 (.r (.load false 1 (.tmp 10)))), (on 12 (.p (.build [(vi D 0), (vi D 0)] [(0, 1, (.tmp 9)), (1, 1, (.tmp 11))]))), (on 13 (.p (.fieldAddr 2 (.tmp 1)))), (on 14 (.r (.load false 1 (.tmp 13)))), (on 15 (.p (.fieldAddr 3 (.tmp 1)))), (on 16 (.r (.load false 1 (.tmp 15)))), (on 17 (.p (.build [(vi D 0), (vi D 0)] [(0, 1, (.tmp 14)), (1, 1, (.tmp 16))]))), (on 18 (.p (.fieldAddr 0 (.tmp 1)))), (on 19 (.r (.load false 1 (.tmp 18)))), (on 20 (.p (.fieldAddr 3 (.tmp 1)))), (on 21 (.r (.load false 1 (.tmp 20)))), (on 22 (.p (.build [(vi D 0), (vi D 0)] [(0, 1, (.tmp 19)), (1, 1, (.tmp 21))]))), (on 23 (.p (.build [(vi D 0), (vi D 0), (vi D 0), (vi D 0), (vi D 0), (vi D 0), (vi D 0), (vi D 0)] [(0, 2, (.tmp 7)), (2, 2, (.tmp 12)), (4, 2, (.tmp 17)), (6, 2, (.tmp 22))]))), ⟨⟨none, none, .e (.store 8 (.tmp 2) (.tmp 23))⟩, []⟩]) (.ret))⟩
theorem lf32_eq (D : Dom I S) : trFunc D (tyFn D) Tryz.f32 = some (lf32 D) := by kernel_rfl
noncomputable def lf33 (D : Dom I S) : LFunc I S := ⟨39, [.tmp 4], .seq (.region [
 (on 2 (.a (.box (.tmp 0)))), (on 3 (.a (.box (.tmp 1)))), (on 4 (.p (.move (.const (.bool false)))))]) (.seq (.region [
 (on 5 (.r (.load true 2 (.tmp 2)))), (on 6 (.call (.const (.func 26 [] [])) [(.tmp 5)])), (mv 7 6), ⟨⟨some 8, some (some 7, true), .r (.load true 4 (.tmp 3))⟩, []⟩,
 ⟨⟨some 9, some (some 7, true), .call (.const (.func 8 [] [])) [(.tmp 8)]⟩, []⟩, (on 10 (.p (.pick (.tmp 7) (.tmp 9) (.const (.bool false))))), (mv 11 10), ⟨⟨some 12, some (some 11, true), .p (.fieldAddr 0 (.tmp 2))⟩, []⟩,
 ⟨⟨some 13, some (some 11, true), .r (.load false 1 (.tmp 12))⟩, []⟩,
 ⟨⟨some 14, some (some 11, true), .p (.fieldAddr 0 (.tmp 3))⟩, []⟩,
 ⟨⟨some 15, some (some 11, true), .r (.load false 1 (.tmp 14))⟩, []⟩,
 ⟨⟨some 16, some (some 11, true), .p (.bin .geq (.tmp 13) (.tmp 15))⟩, []⟩, (on 17 (.p (.pick (.tmp 11) (.tmp 16) (.const (.bool false))))), (mv 18 17), ⟨⟨some 19, some (some 18, true), .p (.fieldAddr 0 (.tmp 2))⟩, []⟩,
 ⟨⟨some 20, some (some 18, true), .r (.load false 1 (.tmp 19))⟩, []⟩,
 ⟨⟨some 21, some (some 18, true), .p (.fieldAddr 2 (.tmp 3))⟩, []⟩,
 ⟨⟨some 22, some (some 18, true), .r (.load false 1 (.tmp 21))⟩, []⟩,
 ⟨⟨some 23, some (some 18, true), .p (.bin .leq (.tmp 20) (.tmp 22))⟩, []⟩, (on 24 (.p (.pick (.tmp 18) (.tmp 23) (.const (.bool false))))), (mv 25 24), ⟨⟨some 26, some (some 25, true), .p (.fieldAddr 1 (.tmp 2))⟩, []⟩,
 ⟨⟨some 27, some (some 25, true), .r (.load false 1 (.tmp 26))⟩, []⟩,
 ⟨⟨some 28, some (some 25, true), .p (.fieldAddr 1 (.tmp 3))⟩, []⟩,
 ⟨⟨some 29, some (some 25, true), .r (.load false 1 (.tmp 28))⟩, []⟩,
 ⟨⟨some 30, some (some 25, true), .p (.bin .geq (.tmp 27) (.tmp 29))⟩, []⟩, (on 31 (.p (.pick (.tmp 25) (.tmp 30) (.const (.bool false))))), (mv 32 31), ⟨⟨some 33, some (some 32, true), .p (.fieldAddr 1 (.tmp 2))⟩, []⟩,
 ⟨⟨some 34, some (some 32, true), .r (.load false 1 (.tmp 33))⟩, []⟩,
 ⟨⟨some 35, some (some 32, true), .p (.fieldAddr 3 (.tmp 3))⟩, []⟩,
 ⟨⟨some 36, some (some 32, true), .r (.load false 1 (.tmp 35))⟩, []⟩,
 ⟨⟨some 37, some (some 32, true), .p (.bin .leq (.tmp 34) (.tmp 36))⟩, []⟩, (on 38 (.p (.pick (.tmp 32) (.tmp 37) (.const (.bool false))))), (mv 4 38)]) (.ret))⟩
theorem lf33_eq (D : Dom I S) : trFunc D (tyFn D) Tryz.f33 = some (lf33 D) := by kernel_rfl
noncomputable def lf34 (D : Dom I S) : LFunc I S := ⟨53, [.tmp 8], .seq (.region [
 (on 4 (.a (.box (.tmp 0)))), (on 5 (.a (.box (.tmp 1)))), (on 6 (.a (.box (.tmp 2)))), (on 7 (.a (.box (.tmp 3)))), (on 8 (.p (.move (.const (.bool false)))))]) (.seq (.seq (.region [
 (on 9 (.r (.load true 2 (.tmp 4)))), (on 10 (.r (.load true 2 (.tmp 6)))), (on 11 (.r (.load true 2 (.tmp 7)))), (on 12 (.call (.const (.func 97 [] [])) [(.tmp 9), (.tmp 10), (.tmp 11)])), (mv 13 12), ⟨⟨some 14, some (some 13, false), .r (.load true 2 (.tmp 5))⟩, []⟩,
 ⟨⟨some 15, some (some 13, false), .r (.load true 2 (.tmp 6))⟩, []⟩,
 ⟨⟨some 16, some (some 13, false), .r (.load true 2 (.tmp 7))⟩, []⟩,
 ⟨⟨some 17, some (some 13, false), .call (.const (.func 97 [] [])) [(.tmp 14), (.tmp 15), (.tmp 16)]⟩, []⟩, (on 18 (.p (.pick (.tmp 13) (.const (.bool true)) (.tmp 17)))), (mv 19 18), ⟨⟨some 20, some (some 19, false), .r (.load true 2 (.tmp 6))⟩, []⟩,
 ⟨⟨some 21, some (some 19, false), .r (.load true 2 (.tmp 4))⟩, []⟩,
 ⟨⟨some 22, some (some 19, false), .r (.load true 2 (.tmp 5))⟩, []⟩,
 ⟨⟨some 23, some (some 19, false), .call (.const (.func 97 [] [])) [(.tmp 20), (.tmp 21), (.tmp 22)]⟩, []⟩, (on 24 (.p (.pick (.tmp 19) (.const (.bool true)) (.tmp 23)))), (mv 25 24), ⟨⟨some 26, some (some 25, false), .r (.load true 2 (.tmp 7))⟩, []⟩,
 ⟨⟨some 27, some (some 25, false), .r (.load true 2 (.tmp 4))⟩, []⟩,
 ⟨⟨some 28, some (some 25, false), .r (.load true 2 (.tmp 5))⟩, []⟩,
 ⟨⟨some 29, some (some 25, false), .call (.const (.func 97 [] [])) [(.tmp 26), (.tmp 27), (.tmp 28)]⟩, []⟩, (on 30 (.p (.pick (.tmp 25) (.const (.bool true)) (.tmp 29))))]) (.cond (.tmp 30) (.seq (.region [
 (on 8 (.p (.move (.const (.bool true)))))]) (.ret)) (.skip))) (.seq (.region [
 (on 31 (.r (.load true 2 (.tmp 4)))), (on 32 (.r (.load true 2 (.tmp 5)))), (on 33 (.r (.load true 2 (.tmp 6)))), (on 35 (.r (.load true 2 (.tmp 4)))), (on 36 (.r (.load true 2 (.tmp 5)))), (on 37 (.r (.load true 2 (.tmp 7)))), ⟨⟨some 34, none, .call (.const (.func 98 [] [])) [(.tmp 31), (.tmp 32), (.tmp 33)]⟩, [⟨some 37, none, .r (.load true 2 (.tmp 7))⟩, ⟨some 36, none, .r (.load true 2 (.tmp 5))⟩, ⟨some 35, none, .r (.load true 2 (.tmp 4))⟩]⟩, (on 38 (.call (.const (.func 98 [] [])) [(.tmp 35), (.tmp 36), (.tmp 37)])), (on 39 (.p (.bin .mul (.tmp 34) (.tmp 38)))), (on 40 (.p (.bin .lss (.tmp 39) (ci D 0)))), (mv 41 40), ⟨⟨some 42, some (some 41, true), .r (.load true 2 (.tmp 6))⟩, []⟩,
 ⟨⟨some 43, some (some 41, true), .r (.load true 2 (.tmp 7))⟩, []⟩,
 ⟨⟨some 44, some (some 41, true), .r (.load true 2 (.tmp 4))⟩, []⟩,
 ⟨⟨some 46, some (some 41, true), .r (.load true 2 (.tmp 6))⟩, []⟩,
 ⟨⟨some 47, some (some 41, true), .r (.load true 2 (.tmp 7))⟩, []⟩,
 ⟨⟨some 48, some (some 41, true), .r (.load true 2 (.tmp 5))⟩, []⟩,
 ⟨⟨some 45, some (some 41, true), .call (.const (.func 98 [] [])) [(.tmp 42), (.tmp 43), (.tmp 44)]⟩, [⟨some 48, some (some 41, true), .r (.load true 2 (.tmp 5))⟩, ⟨some 47, some (some 41, true), .r (.load true 2 (.tmp 7))⟩, ⟨some 46, some (some 41, true), .r (.load true 2 (.tmp 6))⟩]⟩, ⟨⟨some 49, some (some 41, true), .call (.const (.func 98 [] [])) [(.tmp 46), (.tmp 47), (.tmp 48)]⟩, []⟩,
 ⟨⟨some 50, some (some 41, true), .p (.bin .mul (.tmp 45) (.tmp 49))⟩, []⟩,
 ⟨⟨some 51, some (some 41, true), .p (.bin .lss (.tmp 50) (ci D 0))⟩, []⟩, (on 52 (.p (.pick (.tmp 41) (.tmp 51) (.const (.bool false))))), (mv 8 52)]) (.ret)))⟩
theorem lf34_eq (D : Dom I S) : trFunc D (tyFn D) Tryz.f34 = some (lf34 D) := by kernel_rfl
noncomputable def lf36 (D : Dom I S) : LFunc I S := ⟨87, [.tmp 4], .seq (.region [
 (on 2 (.a (.box (.tmp 0)))), (on 3 (.a (.box (.tmp 1)))), (on 4 (.p (.move (.const (.bool false)))))]) (.seq (.region [
 (on 5 (.p (.fieldAddr 0 (.tmp 2)))), (on 6 (.r (.load false 1 (.tmp 5)))), (on 7 (.p (.fieldAddr 0 (.tmp 3)))), (on 8 (.r (.load false 1 (.tmp 7)))), (on 9 (.p (.bin .eql (.tmp 6) (.tmp 8)))), (mv 10 9), ⟨⟨some 11, some (some 10, true), .p (.fieldAddr 1 (.tmp 2))⟩, []⟩,
 ⟨⟨some 12, some (some 10, true), .r (.load false 1 (.tmp 11))⟩, []⟩,
 ⟨⟨some 13, some (some 10, true), .p (.fieldAddr 1 (.tmp 3))⟩, []⟩,
 ⟨⟨some 14, some (some 10, true), .r (.load false 1 (.tmp 13))⟩, []⟩,
 ⟨⟨some 15, some (some 10, true), .p (.bin .eql (.tmp 12) (.tmp 14))⟩, []⟩, (on 16 (.p (.pick (.tmp 10) (.tmp 15) (.const (.bool false))))), (mv 17 16), ⟨⟨some 18, some (some 17, true), .p (.fieldAddr 2 (.tmp 2))⟩, []⟩,
 ⟨⟨some 19, some (some 17, true), .r (.load false 1 (.tmp 18))⟩, []⟩,
 ⟨⟨some 20, some (some 17, true), .p (.fieldAddr 2 (.tmp 3))⟩, []⟩,
 ⟨⟨some 21, some (some 17, true), .r (.load false 1 (.tmp 20))⟩, []⟩,
 ⟨⟨some 22, some (some 17, true), .p (.bin .eql (.tmp 19) (.tmp 21))⟩, []⟩, (on 23 (.p (.pick (.tmp 17) (.tmp 22) (.const (.bool false))))), (mv 24 23), ⟨⟨some 25, some (some 24, true), .p (.fieldAddr 3 (.tmp 2))⟩, []⟩,
 ⟨⟨some 26, some (some 24, true), .r (.load true 2 (.tmp 25))⟩, []⟩,
 ⟨⟨some 27, some (some 24, true), .p (.fieldAddr 3 (.tmp 3))⟩, []⟩,
 ⟨⟨some 28, some (some 24, true), .r (.load true 2 (.tmp 27))⟩, []⟩,
 ⟨⟨some 29, some (some 24, true), .p (.eqAgg false 2 (.tmp 26) (.tmp 28))⟩, []⟩, (on 30 (.p (.pick (.tmp 24) (.tmp 29) (.const (.bool false))))), (mv 31 30), ⟨⟨some 32, some (some 31, true), .p (.fieldAddr 5 (.tmp 2))⟩, []⟩,
 ⟨⟨some 33, some (some 31, true), .r (.load false 1 (.tmp 32))⟩, []⟩,
 ⟨⟨some 34, some (some 31, true), .p (.fieldAddr 5 (.tmp 3))⟩, []⟩,
 ⟨⟨some 35, some (some 31, true), .r (.load false 1 (.tmp 34))⟩, []⟩,
 ⟨⟨some 36, some (some 31, true), .p (.bin .eql (.tmp 33) (.tmp 35))⟩, []⟩, (on 37 (.p (.pick (.tmp 31) (.tmp 36) (.const (.bool false))))), (mv 38 37), ⟨⟨some 39, some (some 38, true), .p (.fieldAddr 6 (.tmp 2))⟩, []⟩,
 ⟨⟨some 40, some (some 38, true), .r (.load false 1 (.tmp 39))⟩, []⟩,
 ⟨⟨some 41, some (some 38, true), .p (.fieldAddr 6 (.tmp 3))⟩, []⟩,
 ⟨⟨some 42, some (some 38, true), .r (.load false 1 (.tmp 41))⟩, []⟩,
 ⟨⟨some 43, some (some 38, true), .p (.eqb false (.tmp 40) (.tmp 42))⟩, []⟩, (on 44 (.p (.pick (.tmp 38) (.tmp 43) (.const (.bool false))))), (mv 45 44), ⟨⟨some 46, some (some 45, true), .p (.fieldAddr 7 (.tmp 2))⟩, []⟩,
 ⟨⟨some 47, some (some 45, true), .r (.load false 1 (.tmp 46))⟩, []⟩,
 ⟨⟨some 48, some (some 45, true), .p (.fieldAddr 7 (.tmp 3))⟩, []⟩,
 ⟨⟨some 49, some (some 45, true), .r (.load false 1 (.tmp 48))⟩, []⟩,
 ⟨⟨some 50, some (some 45, true), .p (.bin .eql (.tmp 47) (.tmp 49))⟩, []⟩, (on 51 (.p (.pick (.tmp 45) (.tmp 50) (.const (.bool false))))), (mv 52 51), ⟨⟨some 53, some (some 52, true), .p (.fieldAddr 8 (.tmp 2))⟩, []⟩,
 ⟨⟨some 54, some (some 52, true), .r (.load false 1 (.tmp 53))⟩, []⟩,
 ⟨⟨some 55, some (some 52, true), .p (.fieldAddr 8 (.tmp 3))⟩, []⟩,
 ⟨⟨some 56, some (some 52, true), .r (.load false 1 (.tmp 55))⟩, []⟩,
 ⟨⟨some 57, some (some 52, true), .p (.bin .eql (.tmp 54) (.tmp 56))⟩, []⟩, (on 58 (.p (.pick (.tmp 52) (.tmp 57) (.const (.bool false))))), (mv 59 58), ⟨⟨some 60, some (some 59, true), .p (.fieldAddr 9 (.tmp 2))⟩, []⟩,
 ⟨⟨some 61, some (some 59, true), .r (.load false 1 (.tmp 60))⟩, []⟩,
 ⟨⟨some 62, some (some 59, true), .p (.fieldAddr 9 (.tmp 3))⟩, []⟩,
 ⟨⟨some 63, some (some 59, true), .r (.load false 1 (.tmp 62))⟩, []⟩,
 ⟨⟨some 64, some (some 59, true), .p (.eqb false (.tmp 61) (.tmp 63))⟩, []⟩, (on 65 (.p (.pick (.tmp 59) (.tmp 64) (.const (.bool false))))), (mv 66 65), ⟨⟨some 67, some (some 66, true), .p (.fieldAddr 10 (.tmp 2))⟩, []⟩,
 ⟨⟨some 68, some (some 66, true), .r (.load true 4 (.tmp 67))⟩, []⟩,
 ⟨⟨some 69, some (some 66, true), .p (.fieldAddr 10 (.tmp 3))⟩, []⟩,
 ⟨⟨some 70, some (some 66, true), .r (.load true 4 (.tmp 69))⟩, []⟩,
 ⟨⟨some 71, some (some 66, true), .p (.eqAgg false 4 (.tmp 68) (.tmp 70))⟩, []⟩, (on 72 (.p (.pick (.tmp 66) (.tmp 71) (.const (.bool false))))), (mv 73 72), ⟨⟨some 74, some (some 73, true), .p (.fieldAddr 14 (.tmp 2))⟩, []⟩,
 ⟨⟨some 75, some (some 73, true), .r (.load false 1 (.tmp 74))⟩, []⟩,
 ⟨⟨some 76, some (some 73, true), .p (.fieldAddr 14 (.tmp 3))⟩, []⟩,
 ⟨⟨some 77, some (some 73, true), .r (.load false 1 (.tmp 76))⟩, []⟩,
 ⟨⟨some 78, some (some 73, true), .call (.const (.func 100 [] [])) [(.tmp 75), (.tmp 77)]⟩, []⟩, (on 79 (.p (.pick (.tmp 73) (.tmp 78) (.const (.bool false))))), (mv 80 79), ⟨⟨some 81, some (some 80, true), .p (.fieldAddr 15 (.tmp 2))⟩, []⟩,
 ⟨⟨some 82, some (some 80, true), .r (.load false 1 (.tmp 81))⟩, []⟩,
 ⟨⟨some 83, some (some 80, true), .p (.fieldAddr 15 (.tmp 3))⟩, []⟩,
 ⟨⟨some 84, some (some 80, true), .r (.load false 1 (.tmp 83))⟩, []⟩,
 ⟨⟨some 85, some (some 80, true), .call (.const (.func 17 [] [])) [(.tmp 82), (.tmp 84)]⟩, []⟩, (on 86 (.p (.pick (.tmp 80) (.tmp 85) (.const (.bool false))))), (mv 4 86)]) (.ret))⟩
theorem lf36_eq (D : Dom I S) : trFunc D (tyFn D) Tryz.f36 = some (lf36 D) := by kernel_rfl
noncomputable def lf37 (D : Dom I S) : LFunc I S := ⟨55, [.tmp 4], .seq (.region [
 (on 4 (.p (.move (.const (.bool false)))))]) (.seq (.seq (.region [
 (mv 6 0), (on 7 (.p (.nilchk (.tmp 6)))), (on 8 (.p (.fieldAddr 0 (.tmp 7)))), (on 9 (.r (.load false 1 (.tmp 8))))]) (.block 0 (.seq (.region [
 (on 11 (.p (.bin .eql (.tmp 9) (ci D 0)))), (mv 10 11)]) (.cond (.tmp 10) (.seq (.region [
 (mv 12 0), (on 13 (.p (.nilchk (.tmp 12)))), (on 14 (.p (.fieldAddr 1 (.tmp 13)))), (on 15 (.r (.load false 1 (.tmp 14)))), (on 16 (.call (.const (.func 71 [] [])) [(.tmp 15), (ci D 8)])), (mv 17 16), ⟨⟨some 18, some (some 17, true), .p (.move (.tmp 0))⟩, []⟩,
 ⟨⟨some 19, some (some 17, true), .p (.nilchk (.tmp 18))⟩, []⟩,
 ⟨⟨some 20, some (some 17, true), .p (.fieldAddr 1 (.tmp 19))⟩, []⟩,
 ⟨⟨some 21, some (some 17, true), .r (.load false 1 (.tmp 20))⟩, []⟩,
 ⟨⟨some 22, some (some 17, true), .p (.idxSl 8 (.tmp 21) (ci D 0))⟩, []⟩,
 ⟨⟨some 23, some (some 17, true), .p (.fieldAddr 0 (.tmp 22))⟩, []⟩,
 ⟨⟨some 24, some (some 17, true), .r (.load false 1 (.tmp 23))⟩, []⟩,
 ⟨⟨some 25, some (some 17, true), .p (.bin .neq (.tmp 24) (ci D 2))⟩, []⟩, (on 26 (.p (.pick (.tmp 17) (.tmp 25) (.const (.bool false))))), (mv 4 26)]) (.ret)) (.seq (.region [
 (on 28 (.p (.bin .eql (.tmp 9) (ci D 3)))), (mv 27 28)]) (.cond (.tmp 27) (.seq (.region [
 (mv 29 0), (on 30 (.p (.nilchk (.tmp 29)))), (on 31 (.p (.fieldAddr 9 (.tmp 30)))), (on 32 (.r (.load true 3 (.tmp 31)))), (on 5 (.a (.box (.const (.agg [(vi D 0), (vi D 0), (vi D 0)]))))), ⟨⟨none, none, .e (.store 3 (.tmp 5) (.tmp 32))⟩, []⟩]) (.seq (.region [
 (on 33 (.p (.fieldAddr 0 (.tmp 5)))), (on 34 (.r (.load false 1 (.tmp 33)))), (on 35 (.p (.bin .geq (.tmp 34) (ci D 0)))), (mv 36 35), ⟨⟨some 37, some (some 36, true), .p (.fieldAddr 0 (.tmp 5))⟩, []⟩,
 ⟨⟨some 38, some (some 36, true), .r (.load false 1 (.tmp 37))⟩, []⟩,
 ⟨⟨some 39, some (some 36, true), .p (.bin .leq (.tmp 38) (ci D 2))⟩, []⟩, (on 40 (.p (.pick (.tmp 36) (.tmp 39) (.const (.bool false))))), (mv 41 40), ⟨⟨some 42, some (some 41, true), .p (.fieldAddr 1 (.tmp 5))⟩, []⟩,
 ⟨⟨some 43, some (some 41, true), .r (.load false 1 (.tmp 42))⟩, []⟩,
 ⟨⟨some 44, some (some 41, true), .p (.bin .geq (.tmp 43) (ci D 0))⟩, []⟩, (on 45 (.p (.pick (.tmp 41) (.tmp 44) (.const (.bool false))))), (mv 46 45), ⟨⟨some 47, some (some 46, true), .p (.fieldAddr 1 (.tmp 5))⟩, []⟩,
 ⟨⟨some 48, some (some 46, true), .r (.load false 1 (.tmp 47))⟩, []⟩,
 ⟨⟨some 49, some (some 46, true), .p (.bin .lss (.tmp 48) (ci D 4294967296))⟩, []⟩, (on 50 (.p (.pick (.tmp 46) (.tmp 49) (.const (.bool false))))), (mv 4 50)]) (.ret))) (.skip))))))) (.seq (.region [
 (mv 51 0), (on 52 (.p (.nilchk (.tmp 51)))), (on 53 (.r (.load true 12 (.tmp 52)))), (on 54 (.call (.const (.func 101 [] [])) [(.tmp 53)])), (mv 4 54)]) (.ret)))⟩
theorem lf37_eq (D : Dom I S) : trFunc D (tyFn D) Tryz.f37 = some (lf37 D) := by kernel_rfl
noncomputable def lf38 (D : Dom I S) : LFunc I S := ⟨7, [.tmp 2], .seq (.region [
 (on 2 (.p (.move (ci D 0))))]) (.seq (.region [
 (mv 3 0), (on 4 (.p (.nilchk (.tmp 3)))), (on 5 (.p (.fieldAddr 0 (.tmp 4)))), (on 6 (.call (.const (.func 102 [] [])) [(.tmp 5)])), (mv 2 6)]) (.ret))⟩
theorem lf38_eq (D : Dom I S) : trFunc D (tyFn D) Tryz.f38 = some (lf38 D) := by kernel_rfl
noncomputable def lf39 (D : Dom I S) : LFunc I S := ⟨10, [.tmp 4], .seq (.region [
 (on 4 (.p (.move (ci D 0))))]) (.seq (.region [
 (mv 5 0), (on 6 (.p (.nilchk (.tmp 5)))), (on 7 (.p (.fieldAddr 0 (.tmp 6)))), (mv 8 1), (on 9 (.call (.const (.func 103 [] [])) [(.tmp 7), (.tmp 8)])), (mv 4 9)]) (.ret))⟩
theorem lf39_eq (D : Dom I S) : trFunc D (tyFn D) Tryz.f39 = some (lf39 D) := by kernel_rfl
noncomputable def lf40 (D : Dom I S) : LFunc I S := ⟨44, [.tmp 8], .seq (.region [
 (on 8 (.p (.move (.const .nils))))]) (.seq (.region [
 (mv 13 0), (on 14 (.p (.nilchk (.tmp 13)))), (on 15 (.p (.fieldAddr 3 (.tmp 14)))), (on 16 (.r (.load false 1 (.tmp 15)))), (mv 17 2), (mv 18 3), (on 19 (.call (.const (.func 104 [] [])) [(.tmp 16), (.tmp 17), (.tmp 18)])), (mv 12 19), (on 20 (.p (.extract 0 (.tmp 12)))), (on 21 (.p (.extract 1 (.tmp 12)))), (on 22 (.p (.extract 2 (.tmp 12)))), (on 9 (.a (.box (.const (.agg [(vi D 0), (vi D 0)]))))), ⟨⟨none, none, .e (.store 2 (.tmp 9) (.tmp 20))⟩, []⟩, (mv 10 21), (mv 11 22)]) (.seq (.seq (.region [
 (mv 23 11), (on 24 (.p (.bin .neq (.tmp 23) (ci D 0))))]) (.cond (.tmp 24) (.seq (.region [
 (mv 25 0), (mv 26 1), (on 27 (.p (.build [(vi D 0), (vi D 0), .nils] [(1, 1, (ci D 4))]))), (on 28 (.call (.const (.func 95 [] [])) [(.tmp 25), (.tmp 26), (.tmp 27)]))]) (.seq (.region [
 (on 8 (.p (.move (.const .nils))))]) (.ret))) (.skip))) (.seq (.region [
 (mv 29 0), (mv 30 0), (on 31 (.p (.nilchk (.tmp 30)))), (on 32 (.p (.fieldAddr 6 (.tmp 31)))), (on 33 (.r (.load false 1 (.tmp 32)))), (mv 34 1), (on 35 (.r (.load true 2 (.tmp 9)))), (on 36 (.p (.build [(vi D 0), (vi D 0), (vi D 0)] [(0, 1, (.tmp 34)), (1, 2, (.tmp 35))]))), (on 37 (.a (.bslice [(vi D 0), (vi D 0), (vi D 0)] 1 3 [(0, (.tmp 36))]))), (on 38 (.e (.append 3 24 (.tmp 33) (.tmp 37)))), (on 39 (.p (.nilchk (.tmp 29)))), (on 40 (.p (.fieldAddr 6 (.tmp 39)))), ⟨⟨none, none, .e (.store 1 (.tmp 40) (.tmp 38))⟩, []⟩]) (.seq (.region [
 (mv 41 0), (on 42 (.call (.const (.func 29 [] [])) [(.tmp 41)]))]) (.seq (.region [
 (mv 43 10), (mv 8 43)]) (.ret))))))⟩
theorem lf40_eq (D : Dom I S) : trFunc D (tyFn D) Tryz.f40 = some (lf40 D) := by kernel_rfl
noncomputable def lf41 (D : Dom I S) : LFunc I S := ⟨30, [.tmp 4, .tmp 5], .seq (.region [
 (on 3 (.a (.box (.tmp 1)))), (on 4 (.p (.move (.const .nilp)))), (on 5 (.p (.move (ci D 0))))]) (.seq (.seq (.region [
 (mv 6 0), (on 7 (.p (.bin .lss (.tmp 6) (ci D 1)))), (mv 8 7), ⟨⟨some 9, some (some 8, false), .p (.move (.tmp 0))⟩, []⟩,
 ⟨⟨some 10, some (some 8, false), .p (.bin .gtr (.tmp 9) (ci D 8))⟩, []⟩, (on 11 (.p (.pick (.tmp 8) (.const (.bool true)) (.tmp 10)))), (mv 12 11), ⟨⟨some 13, some (some 12, false), .r (.load true 12 (.tmp 3))⟩, []⟩,
 ⟨⟨some 14, some (some 12, false), .call (.const (.func 101 [] [])) [(.tmp 13)]⟩, []⟩,
 ⟨⟨some 15, some (some 12, false), .p (.un .not (.tmp 14))⟩, []⟩, (on 16 (.p (.pick (.tmp 12) (.const (.bool true)) (.tmp 15))))]) (.cond (.tmp 16) (.seq (.region [
 (on 4 (.p (.move (.const .nilp)))), (on 5 (.p (.move (ci D 1800))))]) (.ret)) (.skip))) (.seq (.region [
 (on 17 (.p (.fieldAddr 0 (.tmp 3)))), (on 18 (.r (.load false 1 (.tmp 17)))), (on 19 (.p (.fieldAddr 6 (.tmp 3)))), (on 20 (.r (.load true 2 (.tmp 19)))), (on 21 (.p (.fieldAddr 8 (.tmp 3)))), (on 22 (.r (.load false 1 (.tmp 21)))), (on 23 (.p (.build [(vi D 0), .nils, (vi D 0), (vi D 0), (vi D 0), (vi D 0), (vi D 0), (vi D 0), (vi D 0), (vi D 0), (vi D 0), (vi D 0)] [(0, 1, (.tmp 18)), (6, 2, (.tmp 20)), (8, 1, (.tmp 22))]))), (on 24 (.r (.load true 12 (.tmp 3)))), (mv 26 0), ⟨⟨some 25, none, .call (.const (.func 42 [] [])) [(.tmp 24)]⟩, [⟨some 22, none, .r (.load false 1 (.tmp 21))⟩, ⟨some 20, none, .r (.load true 2 (.tmp 19))⟩, ⟨some 18, none, .r (.load false 1 (.tmp 17))⟩]⟩, (on 27 (.a (.mkmap))), (on 28 (.p (.build [(vi D 0), .nils, (vi D 0), (vi D 0), (vi D 0), (vi D 0), (vi D 0), (vi D 0), (vi D 0), (vi D 0), (vi D 0), (vi D 0), (vi D 0), (vi D 0), (vi D 0), (vi D 0), (vi D 0), .nilm, .nils, (vi D 0), (.bool false)] [(0, 12, (.tmp 23)), (12, 4, (.tmp 25)), (16, 1, (.tmp 26)), (17, 1, (.tmp 27))]))), (on 29 (.a (.box (.tmp 28)))), (mv 4 29), (on 5 (.p (.move (ci D 0))))]) (.ret)))⟩
theorem lf41_eq (D : Dom I S) : trFunc D (tyFn D) Tryz.f41 = some (lf41 D) := by kernel_rfl
noncomputable def lf42 (D : Dom I S) : LFunc I S := ⟨9, [.cell 2 true 4], .seq (.region [
 (on 1 (.a (.box (.tmp 0)))), (on 2 (.a (.box (.const (.agg [(vi D 0), (vi D 0), (vi D 0), (vi D 0)])))))]) (.seq (.seq (.region [
 (on 3 (.p (.fieldAddr 0 (.tmp 1)))), (on 4 (.r (.load false 1 (.tmp 3)))), (on 5 (.p (.bin .eql (.tmp 4) (ci D 1))))]) (.cond (.tmp 5) (.seq (.region [
 (on 6 (.p (.fieldAddr 2 (.tmp 1)))), (on 7 (.r (.load true 4 (.tmp 6)))), ⟨⟨none, none, .e (.store 4 (.tmp 2) (.tmp 7))⟩, []⟩]) (.ret)) (.skip))) (.seq (.region [
 (on 8 (.call (.const (.func 105 [] [])) [])), ⟨⟨none, none, .e (.store 4 (.tmp 2) (.tmp 8))⟩, []⟩]) (.ret)))⟩
theorem lf42_eq (D : Dom I S) : trFunc D (tyFn D) Tryz.f42 = some (lf42 D) := by kernel_rfl
noncomputable def lf43 (D : Dom I S) : LFunc I S := ⟨30, [.tmp 6], .seq (.region [
 (on 5 (.a (.box (.tmp 2)))), (on 6 (.p (.move (.const .nils))))]) (.seq (.region [
 (mv 11 1), (on 12 (.p (.nilchk (.tmp 11)))), (on 13 (.p (.fieldAddr 13 (.tmp 12)))), (on 14 (.r (.load false 1 (.tmp 13)))), (on 15 (.r (.load true 16 (.tmp 5)))), (on 16 (.call (.const (.func 106 [] [])) [(.tmp 14), (.tmp 15)])), (mv 10 16), (on 17 (.p (.extract 0 (.tmp 10)))), (on 18 (.p (.extract 1 (.tmp 10)))), (on 19 (.p (.extract 2 (.tmp 10)))), (on 7 (.a (.box (.const (.agg [(vi D 0), (vi D 0), .nils]))))), ⟨⟨none, none, .e (.store 3 (.tmp 7) (.tmp 17))⟩, []⟩, (mv 8 18), (mv 9 19)]) (.seq (.seq (.region [
 (mv 20 9), (on 21 (.p (.bin .neq (.tmp 20) (ci D 0)))), (mv 22 21), ⟨⟨some 23, some (some 22, false), .p (.move (.tmp 8))⟩, []⟩,
 ⟨⟨some 24, some (some 22, false), .p (.un .not (.tmp 23))⟩, []⟩, (on 25 (.p (.pick (.tmp 22) (.const (.bool true)) (.tmp 24))))]) (.cond (.tmp 25) (.seq (.region [
 (on 6 (.p (.move (.const .nils))))]) (.ret)) (.skip))) (.seq (.region [
 (mv 26 0), (mv 27 1), (on 28 (.r (.load true 3 (.tmp 7)))), (on 29 (.call (.const (.func 107 [] [])) [(.tmp 26), (.tmp 27), (.tmp 28)])), (mv 6 29)]) (.ret))))⟩
theorem lf43_eq (D : Dom I S) : trFunc D (tyFn D) Tryz.f43 = some (lf43 D) := by kernel_rfl
noncomputable def lf44 (D : Dom I S) : LFunc I S := ⟨58, [.cell 8 true 16], .seq (.region [
 (on 7 (.a (.box (.tmp 3)))), (on 8 (.a (.box (.const (.agg [(vi D 0), (vi D 0), (vi D 0), (vi D 0), (vi D 0), (vi D 0), (.bool false), (vi D 0), (vi D 0), (.bool false), (vi D 0), (vi D 0), (vi D 0), (vi D 0), .nils, .nils])))))]) (.seq (.region [
 (mv 13 0), (on 14 (.p (.nilchk (.tmp 13)))), (on 15 (.p (.fieldAddr 0 (.tmp 14)))), (on 16 (.r (.load false 1 (.tmp 15)))), (mv 17 1), (mv 18 2), (on 19 (.r (.load true 4 (.tmp 7)))), (on 20 (.p (.build [(vi D 0), (vi D 0), (vi D 0), (vi D 0), (vi D 0), (vi D 0), (.bool false), (vi D 0), (vi D 0), (.bool false), (vi D 0), (vi D 0), (vi D 0), (vi D 0), .nils, .nils] [(0, 1, (ci D 6)), (1, 1, (.tmp 16)), (2, 1, (.tmp 17)), (7, 1, (.tmp 18)), (10, 4, (.tmp 19))]))), (on 9 (.a (.box (.const (.agg [(vi D 0), (vi D 0), (vi D 0), (vi D 0), (vi D 0), (vi D 0), (.bool false), (vi D 0), (vi D 0), (.bool false), (vi D 0), (vi D 0), (vi D 0), (vi D 0), .nils, .nils]))))), ⟨⟨none, none, .e (.store 16 (.tmp 9) (.tmp 20))⟩, []⟩]) (.seq (.region [
 (on 21 (.r (.load true 16 (.tmp 9)))), (on 10 (.a (.box (.const (.agg [(vi D 0), (vi D 0), (vi D 0), (vi D 0), (vi D 0), (vi D 0), (.bool false), (vi D 0), (vi D 0), (.bool false), (vi D 0), (vi D 0), (vi D 0), (vi D 0), .nils, .nils]))))), ⟨⟨none, none, .e (.store 16 (.tmp 10) (.tmp 21))⟩, []⟩]) (.seq (.region [
 (mv 22 0), (on 23 (.p (.nilchk (.tmp 22)))), (on 24 (.p (.fieldAddr 2 (.tmp 23)))), (on 25 (.r (.load false 1 (.tmp 24)))), (on 26 (.call (.const (.func 52 [] [])) [(.tmp 25)])), (on 27 (.p (.fieldAddr 8 (.tmp 10)))), ⟨⟨none, none, .e (.store 1 (.tmp 27) (.tmp 26))⟩, []⟩]) (.seq (.region [
 (mv 29 0), (on 30 (.p (.nilchk (.tmp 29)))), (on 31 (.p (.fieldAddr 2 (.tmp 30)))), (on 32 (.r (.load false 1 (.tmp 31)))), (on 34 (.r (.load true 4 (.tmp 7)))), ⟨⟨some 33, none, .call (.const (.func 50 [] [])) [(.tmp 32)]⟩, [⟨some 34, none, .r (.load true 4 (.tmp 7))⟩]⟩, (on 35 (.call (.const (.func 108 [] [])) [(.tmp 33), (.tmp 34)])), (mv 28 35), (on 36 (.p (.extract 0 (.tmp 28)))), (on 37 (.p (.extract 1 (.tmp 28)))), (on 38 (.p (.fieldAddr 15 (.tmp 10)))), ⟨⟨none, none, .e (.store 1 (.tmp 38) (.tmp 36))⟩, []⟩]) (.seq (.seq (.region [
 (on 40 (.r (.load true 16 (.tmp 10)))), (on 41 (.call (.const (.func 27 [] [])) [(.tmp 40)])), (mv 39 41), (on 42 (.p (.extract 0 (.tmp 39)))), (on 43 (.p (.extract 1 (.tmp 39)))), (mv 11 42), (mv 12 43)]) (.seq (.region [
 (mv 44 12), (on 45 (.p (.bin .neq (.tmp 44) (ci D 0)))), (mv 46 45), ⟨⟨some 47, some (some 46, false), .p (.move (.tmp 0))⟩, []⟩,
 ⟨⟨some 48, some (some 46, false), .p (.nilchk (.tmp 47))⟩, []⟩,
 ⟨⟨some 49, some (some 46, false), .p (.fieldAddr 2 (.tmp 48))⟩, []⟩,
 ⟨⟨some 50, some (some 46, false), .r (.load false 1 (.tmp 49))⟩, []⟩,
 ⟨⟨some 51, some (some 46, false), .call (.const (.func 109 [] [])) [(.tmp 50)]⟩, []⟩,
 ⟨⟨some 52, some (some 46, false), .p (.len (.tmp 51))⟩, []⟩,
 ⟨⟨some 53, some (some 46, false), .p (.bin .gtr (.tmp 52) (ci D 0))⟩, []⟩, (on 54 (.p (.pick (.tmp 46) (.const (.bool true)) (.tmp 53))))]) (.cond (.tmp 54) (.seq (.region [
 (on 55 (.p (.fieldAddr 9 (.tmp 9)))), ⟨⟨none, none, .e (.store 1 (.tmp 55) (.const (.bool true)))⟩, []⟩]) (.seq (.region [
 (on 56 (.r (.load true 16 (.tmp 9)))), ⟨⟨none, none, .e (.store 16 (.tmp 8) (.tmp 56))⟩, []⟩]) (.ret))) (.skip)))) (.seq (.region [
 (on 57 (.r (.load true 16 (.tmp 10)))), ⟨⟨none, none, .e (.store 16 (.tmp 8) (.tmp 57))⟩, []⟩]) (.ret)))))))⟩
theorem lf44_eq (D : Dom I S) : trFunc D (tyFn D) Tryz.f44 = some (lf44 D) := by kernel_rfl
noncomputable def lf45 (D : Dom I S) : LFunc I S := ⟨33, [.tmp 4], .seq (.region [
 (on 3 (.a (.box (.tmp 1)))), (on 4 (.p (.move (.const .nils))))]) (.seq (.region [
 (on 5 (.p (.move (.const .nils))))]) (.seq (.seq (.region [
 (mv 7 0), (on 8 (.p (.nilchk (.tmp 7)))), (on 9 (.p (.fieldAddr 1 (.tmp 8)))), (on 10 (.r (.load false 1 (.tmp 9)))), (on 11 (.p (.move (ci D 0))))]) (.block 0 (.loop (.seq (.region [
 (on 12 (.p (.bin .lss (.tmp 11) (.tmp 10))))]) (.seq (.cond (.tmp 12) (.skip) (.exit 0)) (.seq (.block 1 (.seq (.region [
 (mv 13 11), (mv 6 13)]) (.seq (.region [
 (mv 14 6), (mv 15 0), (on 16 (.p (.nilchk (.tmp 15)))), (on 17 (.p (.fieldAddr 0 (.tmp 16)))), (on 18 (.r (.load false 1 (.tmp 17)))), (on 19 (.p (.bin .neq (.tmp 14) (.tmp 18))))]) (.cond (.tmp 19) (.seq (.region [
 (mv 20 0), (on 21 (.p (.nilchk (.tmp 20)))), (on 22 (.p (.fieldAddr 0 (.tmp 21)))), (on 23 (.r (.load false 1 (.tmp 22)))), (mv 24 6), (on 25 (.p (.fieldAddr 1 (.tmp 3)))), ⟨⟨none, none, .e (.store 1 (.tmp 25) (.tmp 23))⟩, []⟩, (on 26 (.p (.fieldAddr 2 (.tmp 3)))), ⟨⟨none, none, .e (.store 1 (.tmp 26) (.tmp 24))⟩, []⟩]) (.region [(mv 27 5), (on 28 (.r (.load true 16 (.tmp 3)))), (on 29 (.a (.bslice [(vi D 0), (vi D 0), (vi D 0), (vi D 0), (vi D 0), (vi D 0), (.bool false), (vi D 0), (vi D 0), (.bool false), (vi D 0), (vi D 0), (vi D 0), (vi D 0), .nils, .nils] 1 16 [(0, (.tmp 28))]))), (on 30 (.e (.append 16 160 (.tmp 27) (.tmp 29)))), (mv 5 30)])) (.skip))))) (.region [(on 31 (.p (.bin .add (.tmp 11) (ci D 1)))), (mv 11 31)]))))))) (.seq (.region [
 (mv 32 5), (mv 4 32)]) (.ret))))⟩
theorem lf45_eq (D : Dom I S) : trFunc D (tyFn D) Tryz.f45 = some (lf45 D) := by kernel_rfl
noncomputable def lf46 (D : Dom I S) : LFunc I S := ⟨8, [.tmp 2], .seq (.region [
 (on 2 (.p (.move (.const .nils))))]) (.seq (.seq (.region [
 (mv 3 0), (on 4 (.r (.eqRef .sl false (.tmp 3) (.const .nils))))]) (.cond (.tmp 4) (.seq (.region [
 (on 2 (.p (.move (.const .nils))))]) (.ret)) (.skip))) (.seq (.region [
 (on 5 (.a (.bslice [(vi D 0), (vi D 0), .nils] 0 3 []))), (mv 6 0), (on 7 (.e (.append 3 40 (.tmp 5) (.tmp 6)))), (mv 2 7)]) (.ret)))⟩
theorem lf46_eq (D : Dom I S) : trFunc D (tyFn D) Tryz.f46 = some (lf46 D) := by kernel_rfl
noncomputable def lf47 (D : Dom I S) : LFunc I S := ⟨19, [.tmp 2], .seq (.region [
 (on 2 (.p (.move (.const .nils))))]) (.seq (.region [
 (on 3 (.p (.move (.const .nils))))]) (.seq (.seq (.region [
 (mv 6 0), (on 7 (.p (.len (.tmp 6)))), (on 8 (.p (.move (ci D 0))))]) (.block 0 (.loop (.seq (.region [
 (on 9 (.p (.bin .lss (.tmp 8) (.tmp 7))))]) (.seq (.cond (.tmp 9) (.skip) (.exit 0)) (.seq (.block 1 (.seq (.region [
 (on 10 (.p (.idxSl 3 (.tmp 6) (.tmp 8)))), (on 11 (.r (.load true 3 (.tmp 10)))), (on 5 (.a (.box (.const (.agg [(vi D 0), (vi D 0), .nils]))))), ⟨⟨none, none, .e (.store 3 (.tmp 5) (.tmp 11))⟩, []⟩]) (.region [(mv 12 3), (on 13 (.r (.load true 3 (.tmp 5)))), (on 14 (.call (.const (.func 110 [] [])) [(.tmp 13)])), (on 15 (.a (.bslice [(vi D 0), (vi D 0), .nils] 1 3 [(0, (.tmp 14))]))), (on 16 (.e (.append 3 40 (.tmp 12) (.tmp 15)))), (mv 3 16)]))) (.region [(on 17 (.p (.bin .add (.tmp 8) (ci D 1)))), (mv 8 17)]))))))) (.seq (.region [
 (mv 18 3), (mv 2 18)]) (.ret))))⟩
theorem lf47_eq (D : Dom I S) : trFunc D (tyFn D) Tryz.f47 = some (lf47 D) := by kernel_rfl
noncomputable def lf48 (D : Dom I S) : LFunc I S := ⟨24, [.tmp 4], .seq (.region [
 (on 2 (.a (.box (.tmp 0)))), (on 3 (.a (.box (.tmp 1)))), (on 4 (.p (.move (.const (.bool false)))))]) (.seq (.region [
 (on 5 (.p (.fieldAddr 0 (.tmp 2)))), (on 6 (.r (.load false 1 (.tmp 5)))), (on 7 (.p (.fieldAddr 0 (.tmp 3)))), (on 8 (.r (.load false 1 (.tmp 7)))), (on 9 (.p (.bin .eql (.tmp 6) (.tmp 8)))), (mv 10 9), ⟨⟨some 11, some (some 10, true), .p (.fieldAddr 1 (.tmp 2))⟩, []⟩,
 ⟨⟨some 12, some (some 10, true), .r (.load false 1 (.tmp 11))⟩, []⟩,
 ⟨⟨some 13, some (some 10, true), .p (.fieldAddr 1 (.tmp 3))⟩, []⟩,
 ⟨⟨some 14, some (some 10, true), .r (.load false 1 (.tmp 13))⟩, []⟩,
 ⟨⟨some 15, some (some 10, true), .p (.bin .eql (.tmp 12) (.tmp 14))⟩, []⟩, (on 16 (.p (.pick (.tmp 10) (.tmp 15) (.const (.bool false))))), (mv 17 16), ⟨⟨some 18, some (some 17, true), .p (.fieldAddr 2 (.tmp 2))⟩, []⟩,
 ⟨⟨some 19, some (some 17, true), .r (.load false 1 (.tmp 18))⟩, []⟩,
 ⟨⟨some 20, some (some 17, true), .p (.fieldAddr 2 (.tmp 3))⟩, []⟩,
 ⟨⟨some 21, some (some 17, true), .r (.load false 1 (.tmp 20))⟩, []⟩,
 ⟨⟨some 22, some (some 17, true), .call (.const (.func 17 [] [])) [(.tmp 19), (.tmp 21)]⟩, []⟩, (on 23 (.p (.pick (.tmp 17) (.tmp 22) (.const (.bool false))))), (mv 4 23)]) (.ret))⟩
theorem lf48_eq (D : Dom I S) : trFunc D (tyFn D) Tryz.f48 = some (lf48 D) := by kernel_rfl
noncomputable def lf49 (D : Dom I S) : LFunc I S := ⟨75, [.tmp 4], .seq (.region [
 (on 2 (.a (.box (.tmp 0)))), (on 3 (.a (.box (.tmp 1)))), (on 4 (.p (.move (.const (.bool false)))))]) (.seq (.seq (.region [
 (on 7 (.p (.fieldAddr 0 (.tmp 2)))), (on 8 (.r (.load false 1 (.tmp 7)))), (on 9 (.p (.fieldAddr 0 (.tmp 3)))), (on 10 (.r (.load false 1 (.tmp 9)))), (on 11 (.p (.bin .neq (.tmp 8) (.tmp 10)))), (mv 12 11), ⟨⟨some 13, some (some 12, false), .p (.fieldAddr 1 (.tmp 2))⟩, []⟩,
 ⟨⟨some 14, some (some 12, false), .r (.load false 1 (.tmp 13))⟩, []⟩,
 ⟨⟨some 15, some (some 12, false), .p (.fieldAddr 1 (.tmp 3))⟩, []⟩,
 ⟨⟨some 16, some (some 12, false), .r (.load false 1 (.tmp 15))⟩, []⟩,
 ⟨⟨some 17, some (some 12, false), .p (.bin .neq (.tmp 14) (.tmp 16))⟩, []⟩, (on 18 (.p (.pick (.tmp 12) (.const (.bool true)) (.tmp 17)))), (mv 19 18), ⟨⟨some 20, some (some 19, false), .p (.fieldAddr 2 (.tmp 2))⟩, []⟩,
 ⟨⟨some 21, some (some 19, false), .r (.load false 1 (.tmp 20))⟩, []⟩,
 ⟨⟨some 22, some (some 19, false), .p (.len (.tmp 21))⟩, []⟩,
 ⟨⟨some 23, some (some 19, false), .p (.fieldAddr 2 (.tmp 3))⟩, []⟩,
 ⟨⟨some 24, some (some 19, false), .r (.load false 1 (.tmp 23))⟩, []⟩,
 ⟨⟨some 25, some (some 19, false), .p (.len (.tmp 24))⟩, []⟩,
 ⟨⟨some 26, some (some 19, false), .p (.bin .neq (.tmp 22) (.tmp 25))⟩, []⟩, (on 27 (.p (.pick (.tmp 19) (.const (.bool true)) (.tmp 26))))]) (.cond (.tmp 27) (.seq (.region [
 (on 4 (.p (.move (.const (.bool false)))))]) (.ret)) (.skip))) (.seq (.seq (.region [
 (on 5 (.p (.move (ci D 0))))]) (.block 0 (.loop (.seq (.seq (.region [
 (mv 28 5), (on 29 (.p (.fieldAddr 2 (.tmp 2)))), (on 30 (.r (.load false 1 (.tmp 29)))), (on 31 (.p (.len (.tmp 30)))), (on 32 (.p (.bin .lss (.tmp 28) (.tmp 31))))]) (.cond (.tmp 32) (.skip) (.exit 0))) (.seq (.block 1 (.seq (.seq (.region [
 (on 35 (.p (.fieldAddr 2 (.tmp 2)))), (on 36 (.r (.load false 1 (.tmp 35)))), (mv 37 5), (on 38 (.p (.idxSl 1 (.tmp 36) (.tmp 37)))), (on 39 (.r (.load false 1 (.tmp 38)))), (on 40 (.p (.len (.tmp 39)))), (on 41 (.p (.fieldAddr 2 (.tmp 3)))), (on 42 (.r (.load false 1 (.tmp 41)))), (mv 43 5), (on 44 (.p (.idxSl 1 (.tmp 42) (.tmp 43)))), (on 45 (.r (.load false 1 (.tmp 44)))), (on 46 (.p (.len (.tmp 45)))), (on 47 (.p (.bin .neq (.tmp 40) (.tmp 46))))]) (.cond (.tmp 47) (.seq (.region [
 (on 4 (.p (.move (.const (.bool false)))))]) (.ret)) (.skip))) (.seq (.region [
 (on 6 (.p (.move (ci D 0))))]) (.block 2 (.loop (.seq (.seq (.region [
 (mv 48 6), (on 49 (.p (.fieldAddr 2 (.tmp 2)))), (on 50 (.r (.load false 1 (.tmp 49)))), (mv 51 5), (on 52 (.p (.idxSl 1 (.tmp 50) (.tmp 51)))), (on 53 (.r (.load false 1 (.tmp 52)))), (on 54 (.p (.len (.tmp 53)))), (on 55 (.p (.bin .lss (.tmp 48) (.tmp 54))))]) (.cond (.tmp 55) (.skip) (.exit 2))) (.seq (.block 3 (.seq (.region [
 (on 58 (.p (.fieldAddr 2 (.tmp 2)))), (on 59 (.r (.load false 1 (.tmp 58)))), (mv 60 5), (on 61 (.p (.idxSl 1 (.tmp 59) (.tmp 60)))), (on 62 (.r (.load false 1 (.tmp 61)))), (mv 63 6), (on 64 (.p (.idxSl 2 (.tmp 62) (.tmp 63)))), (on 65 (.r (.load true 2 (.tmp 64)))), (on 66 (.p (.fieldAddr 2 (.tmp 3)))), (on 67 (.r (.load false 1 (.tmp 66)))), (mv 68 5), (on 69 (.p (.idxSl 1 (.tmp 67) (.tmp 68)))), (on 70 (.r (.load false 1 (.tmp 69)))), (mv 71 6), (on 72 (.p (.idxSl 2 (.tmp 70) (.tmp 71)))), (on 73 (.r (.load true 2 (.tmp 72)))), (on 74 (.p (.eqAgg true 2 (.tmp 65) (.tmp 73))))]) (.cond (.tmp 74) (.seq (.region [
 (on 4 (.p (.move (.const (.bool false)))))]) (.ret)) (.skip)))) (.region [(mv 56 6), (on 57 (.p (.bin .add (.tmp 56) (ci D 1)))), (mv 6 57)])))))))) (.region [(mv 33 5), (on 34 (.p (.bin .add (.tmp 33) (ci D 1)))), (mv 5 34)])))))) (.seq (.region [
 (on 4 (.p (.move (.const (.bool true)))))]) (.ret))))⟩
theorem lf49_eq (D : Dom I S) : trFunc D (tyFn D) Tryz.f49 = some (lf49 D) := by kernel_rfl
noncomputable def lf50 (D : Dom I S) : LFunc I S := ⟨7, [.tmp 2], .seq (.region [
 (on 2 (.p (.move (.const .nilp))))]) (.seq (.region [
 (mv 3 0), (on 4 (.p (.nilchk (.tmp 3)))), (on 5 (.p (.fieldAddr 2 (.tmp 4)))), (on 6 (.r (.load false 1 (.tmp 5)))), (mv 2 6)]) (.ret))⟩
theorem lf50_eq (D : Dom I S) : trFunc D (tyFn D) Tryz.f50 = some (lf50 D) := by kernel_rfl
noncomputable def lf51 (D : Dom I S) : LFunc I S := ⟨27, [.tmp 2], .seq (.region [
 (on 2 (.p (.move (.const .nils))))]) (.seq (.seq (.region [
 (mv 6 0), (on 7 (.r (.eqRef .ptr false (.tmp 6) (.const .nilp))))]) (.cond (.tmp 7) (.seq (.region [
 (on 2 (.p (.move (.const .nils))))]) (.ret)) (.skip))) (.seq (.region [
 (on 3 (.p (.move (.const .nils))))]) (.seq (.seq (.region [
 (mv 8 0), (on 9 (.call (.const (.func 111 [] [])) [(.tmp 8)])), (on 10 (.p (.len (.tmp 9)))), (on 11 (.p (.move (ci D 0))))]) (.block 0 (.loop (.seq (.region [
 (on 12 (.p (.bin .lss (.tmp 11) (.tmp 10))))]) (.seq (.cond (.tmp 12) (.skip) (.exit 0)) (.seq (.block 1 (.seq (.region [
 (on 13 (.p (.idxSl 1 (.tmp 9) (.tmp 11)))), (on 14 (.r (.load false 1 (.tmp 13)))), (mv 5 14)]) (.region [(mv 15 3), (mv 16 0), (on 17 (.p (.nilchk (.tmp 16)))), (on 18 (.p (.fieldAddr 5 (.tmp 17)))), (on 19 (.r (.load false 1 (.tmp 18)))), (mv 20 5), (on 21 (.r (.lookup 0 (.agg [(vi D 0), (vi D 0), .nils]) false (.tmp 19) (.tmp 20)))), (on 22 (.call (.const (.func 110 [] [])) [(.tmp 21)])), (on 23 (.a (.bslice [(vi D 0), (vi D 0), .nils] 1 3 [(0, (.tmp 22))]))), (on 24 (.e (.append 3 40 (.tmp 15) (.tmp 23)))), (mv 3 24)]))) (.region [(on 25 (.p (.bin .add (.tmp 11) (ci D 1)))), (mv 11 25)]))))))) (.seq (.region [
 (mv 26 3), (mv 2 26)]) (.ret)))))⟩
theorem lf51_eq (D : Dom I S) : trFunc D (tyFn D) Tryz.f51 = some (lf51 D) := by kernel_rfl
noncomputable def lf52 (D : Dom I S) : LFunc I S := ⟨9, [.tmp 2], .seq (.region [
 (on 2 (.p (.move (ci D 0))))]) (.seq (.seq (.region [
 (mv 3 0), (on 4 (.r (.eqRef .ptr false (.tmp 3) (.const .nilp))))]) (.cond (.tmp 4) (.seq (.region [
 (on 2 (.p (.move (ci D 0))))]) (.ret)) (.skip))) (.seq (.region [
 (mv 5 0), (on 6 (.p (.nilchk (.tmp 5)))), (on 7 (.p (.fieldAddr 6 (.tmp 6)))), (on 8 (.r (.load false 1 (.tmp 7)))), (mv 2 8)]) (.ret)))⟩
theorem lf52_eq (D : Dom I S) : trFunc D (tyFn D) Tryz.f52 = some (lf52 D) := by kernel_rfl
noncomputable def lf53 (D : Dom I S) : LFunc I S := ⟨30, [.tmp 4, .tmp 5], .seq (.region [
 (on 4 (.p (.move (.const (.int .u64 (D.ofInt (.ofNat 0))))))), (on 5 (.p (.move (.const (.int .u64 (D.ofInt (.ofNat 0)))))))]) (.seq (.cond (.const (.bool false)) (.seq (.region [
 (mv 11 0), (on 12 (.p (.convInt .u32 (.tmp 11)))), (mv 13 1), (on 14 (.p (.convInt .u32 (.tmp 13)))), (on 15 (.call (.const (.func 112 [] [])) [(.tmp 12), (.tmp 14)])), (mv 10 15), (on 16 (.p (.extract 0 (.tmp 10)))), (on 17 (.p (.extract 1 (.tmp 10)))), (mv 6 16), (mv 7 17)]) (.seq (.region [
 (mv 18 6), (on 19 (.p (.convInt .u64 (.tmp 18)))), (mv 20 7), (on 21 (.p (.convInt .u64 (.tmp 20)))), (mv 4 19), (mv 5 21)]) (.ret))) (.skip)) (.seq (.region [
 (mv 23 0), (mv 24 1), (on 25 (.call (.const (.func 113 [] [])) [(.tmp 23), (.tmp 24)])), (mv 22 25), (on 26 (.p (.extract 0 (.tmp 22)))), (on 27 (.p (.extract 1 (.tmp 22)))), (mv 8 26), (mv 9 27)]) (.seq (.region [
 (mv 28 8), (mv 29 9), (mv 4 28), (mv 5 29)]) (.ret))))⟩
theorem lf53_eq (D : Dom I S) : trFunc D (tyFn D) Tryz.f53 = some (lf53 D) := by kernel_rfl
noncomputable def lf54 (D : Dom I S) : LFunc I S := ⟨59, [.tmp 4, .tmp 5, .tmp 6], .seq (.region [
 ⟨⟨some 4, none, .p (.move (.const (.str (D.sOf ⟨#[]⟩))))⟩, []⟩, (on 5 (.p (.move (ci D 0)))), (on 6 (.p (.move (.const (.bool false)))))]) (.seq (.region [
 (on 7 (.p (.move (ci D 6))))]) (.seq (.seq (.region [
 (mv 13 0), (on 14 (.p (.lenS (.tmp 13)))), (on 15 (.p (.bin .lss (.tmp 14) (ci D 12))))]) (.cond (.tmp 15) (.seq (.region [
 ⟨⟨some 4, none, .p (.move (.const (.str (D.sOf ⟨#[]⟩))))⟩, []⟩, (on 5 (.p (.move (ci D 0)))), (on 6 (.p (.move (.const (.bool false)))))]) (.ret)) (.skip))) (.seq (.region [
 (mv 16 0), (mv 17 7), (on 18 (.p (.idxStr (.tmp 16) (.tmp 17)))), (on 19 (.p (.convInt .i64 (.tmp 18)))), (on 20 (.p (.bin .shl (.tmp 19) (.const (.int .u64 (D.ofInt (.ofNat 8))))))), (mv 21 0), (mv 22 7), (on 23 (.p (.bin .add (.tmp 22) (ci D 1)))), (on 24 (.p (.idxStr (.tmp 21) (.tmp 23)))), (on 25 (.p (.convInt .i64 (.tmp 24)))), (on 26 (.p (.bin .or (.tmp 20) (.tmp 25)))), (mv 8 26)]) (.seq (.region [
 (mv 27 8), (on 28 (.call (.const (.func 114 [] [])) [(.tmp 27)])), (on 29 (.p (.bin .mul (.tmp 28) (ci D 64)))), (mv 9 29)]) (.seq (.seq (.region [
 (mv 30 9), (on 31 (.p (.bin .eql (.tmp 30) (ci D 0)))), (mv 32 31), ⟨⟨some 33, some (some 32, false), .p (.move (.tmp 9))⟩, []⟩,
 ⟨⟨some 34, some (some 32, false), .p (.move (.tmp 0))⟩, []⟩,
 ⟨⟨some 35, some (some 32, false), .p (.lenS (.tmp 34))⟩, []⟩,
 ⟨⟨some 36, some (some 32, false), .p (.bin .gtr (.tmp 33) (.tmp 35))⟩, []⟩, (on 37 (.p (.pick (.tmp 32) (.const (.bool true)) (.tmp 36))))]) (.cond (.tmp 37) (.seq (.region [
 ⟨⟨some 4, none, .p (.move (.const (.str (D.sOf ⟨#[]⟩))))⟩, []⟩, (on 5 (.p (.move (ci D 0)))), (on 6 (.p (.move (.const (.bool false)))))]) (.ret)) (.skip))) (.seq (.region [
 (mv 38 0), (mv 39 8), (on 40 (.p (.bin .add (ci D 12) (.tmp 39)))), (on 41 (.p (.slStr (.tmp 38) (some (ci D 12)) (some (.tmp 40))))), (mv 10 41)]) (.seq (.seq (.region [
 (mv 43 1), (mv 44 10), (on 45 (.call (.const (.func 115 [] [])) [(.tmp 43), (.tmp 44)])), (mv 42 45), (on 46 (.p (.extract 0 (.tmp 42)))), (on 47 (.p (.extract 1 (.tmp 42)))), (mv 11 46), (mv 12 47)]) (.seq (.region [
 (mv 48 12), (on 49 (.p (.bin .neq (.tmp 48) (ci D 0)))), (mv 50 49), ⟨⟨some 51, some (some 50, false), .p (.move (.tmp 11))⟩, []⟩,
 ⟨⟨some 52, some (some 50, false), .p (.move (.tmp 0))⟩, []⟩,
 ⟨⟨some 53, some (some 50, false), .p (.move (.tmp 9))⟩, []⟩,
 ⟨⟨some 54, some (some 50, false), .p (.slStr (.tmp 52) none (some (.tmp 53)))⟩, []⟩,
 ⟨⟨some 55, some (some 50, false), .p (.bin .neq (.tmp 51) (.tmp 54))⟩, []⟩, (on 56 (.p (.pick (.tmp 50) (.const (.bool true)) (.tmp 55))))]) (.cond (.tmp 56) (.seq (.region [
 ⟨⟨some 4, none, .p (.move (.const (.str (D.sOf ⟨#[]⟩))))⟩, []⟩, (on 5 (.p (.move (ci D 0)))), (on 6 (.p (.move (.const (.bool false)))))]) (.ret)) (.skip)))) (.seq (.region [
 (mv 57 10), (mv 58 9), (mv 4 57), (mv 5 58), (on 6 (.p (.move (.const (.bool true)))))]) (.ret)))))))))⟩
theorem lf54_eq (D : Dom I S) : trFunc D (tyFn D) Tryz.f54 = some (lf54 D) := by kernel_rfl
noncomputable def lf55 (D : Dom I S) : LFunc I S := ⟨28, [.tmp 4], .seq (.region [
 ⟨⟨some 4, none, .p (.move (.const (.str (D.sOf ⟨#[]⟩))))⟩, []⟩]) (.seq (.region [
 ⟨⟨some 5, none, .p (.move (.const (.str (D.sOf ⟨#[]⟩))))⟩, []⟩]) (.seq (.seq (.region [
 (on 9 (.call (.const (.func 114 [] [])) [(ci D 8192)])), (on 10 (.p (.move (ci D 0))))]) (.block 0 (.loop (.seq (.region [
 (on 11 (.p (.bin .lss (.tmp 10) (.tmp 9))))]) (.seq (.cond (.tmp 11) (.skip) (.exit 0)) (.seq (.block 1 (.seq (.region [
 (mv 12 10), (mv 6 12)]) (.seq (.region [
 (mv 14 0), (mv 15 1), (mv 16 6), (on 17 (.p (.bin .add (.tmp 15) (.tmp 16)))), (on 18 (.call (.const (.func 116 [] [])) [(.tmp 14), (.tmp 17)])), (mv 13 18), (on 19 (.p (.extract 0 (.tmp 13)))), (on 20 (.p (.extract 1 (.tmp 13)))), (mv 7 19), (mv 8 20)]) (.seq (.seq (.region [
 (mv 21 8), (on 22 (.p (.bin .neq (.tmp 21) (ci D 0))))]) (.cond (.tmp 22) (.exit 0) (.skip))) (.region [(mv 23 5), (mv 24 7), (on 25 (.p (.bin .add (.tmp 23) (.tmp 24)))), (mv 5 25)]))))) (.region [(on 26 (.p (.bin .add (.tmp 10) (ci D 1)))), (mv 10 26)]))))))) (.seq (.region [
 (mv 27 5), (mv 4 27)]) (.ret))))⟩
theorem lf55_eq (D : Dom I S) : trFunc D (tyFn D) Tryz.f55 = some (lf55 D) := by kernel_rfl
noncomputable def lf56 (D : Dom I S) : LFunc I S := ⟨45, [], .seq (.region [
 (on 6 (.a (.mkslice [(.int .u8 (D.ofInt (.ofNat 0)))] 1 1 (ci D 64) (ci D 64)))), (on 7 (.r (.ofBytes (.tmp 6)))), (mv 2 7)]) (.seq (.seq (.region [
 (mv 8 0), (on 9 (.p (.nilchk (.tmp 8)))), (on 10 (.p (.fieldAddr 2 (.tmp 9)))), (on 11 (.r (.load false 1 (.tmp 10)))), (mv 3 11)]) (.block 0 (.loop (.seq (.seq (.region [
 (mv 12 3), (mv 13 0), (on 14 (.p (.nilchk (.tmp 13)))), (on 15 (.p (.fieldAddr 0 (.tmp 14)))), (on 16 (.r (.load false 1 (.tmp 15)))), (on 17 (.call (.const (.func 117 [] [])) [(.tmp 16)])), (on 18 (.p (.bin .lss (.tmp 12) (.tmp 17))))]) (.cond (.tmp 18) (.skip) (.exit 0))) (.seq (.block 1 (.seq (.region [
 (mv 22 0), (on 23 (.p (.nilchk (.tmp 22)))), (on 24 (.p (.fieldAddr 0 (.tmp 23)))), (on 25 (.r (.load false 1 (.tmp 24)))), (mv 26 3), (on 27 (.call (.const (.func 116 [] [])) [(.tmp 25), (.tmp 26)])), (mv 21 27), (on 28 (.p (.extract 0 (.tmp 21)))), (on 29 (.p (.extract 1 (.tmp 21)))), (mv 4 28), (mv 5 29)]) (.seq (.region [
 (mv 30 4), (mv 31 2), (on 32 (.p (.bin .neq (.tmp 30) (.tmp 31))))]) (.cond (.tmp 32) (.region [(mv 33 0), (on 34 (.p (.nilchk (.tmp 33)))), (on 35 (.p (.fieldAddr 0 (.tmp 34)))), (on 36 (.r (.load false 1 (.tmp 35)))), (mv 37 3), (mv 38 2), (on 39 (.call (.const (.func 118 [] [])) [(.tmp 36), (.tmp 37), (.tmp 38)]))]) (.skip))))) (.region [(mv 19 3), (on 20 (.p (.bin .add (.tmp 19) (ci D 1)))), (mv 3 20)])))))) (.region [(mv 40 0), (on 41 (.p (.nilchk (.tmp 40)))), (on 42 (.p (.fieldAddr 0 (.tmp 41)))), (on 43 (.r (.load false 1 (.tmp 42)))), (on 44 (.call (.const (.func 119 [] [])) [(.tmp 43)]))]))⟩
theorem lf56_eq (D : Dom I S) : trFunc D (tyFn D) Tryz.f56 = some (lf56 D) := by kernel_rfl
noncomputable def lf57 (D : Dom I S) : LFunc I S := ⟨35, [.cell 2 true 3, .tmp 3], .seq (.region [
 (on 2 (.a (.box (.const (.agg [(vi D 0), .nils, .nils]))))), (on 3 (.p (.move (ci D 0))))]) (.seq (.seq (.region [
 (mv 6 0), (on 7 (.p (.bin .lss (.tmp 6) (ci D 1)))), (mv 8 7), ⟨⟨some 9, some (some 8, false), .p (.move (.tmp 0))⟩, []⟩,
 ⟨⟨some 10, some (some 8, false), .p (.bin .gtr (.tmp 9) (ci D 8))⟩, []⟩, (on 11 (.p (.pick (.tmp 8) (.const (.bool true)) (.tmp 10))))]) (.cond (.tmp 11) (.seq (.region [
 (on 12 (.p (.build [(vi D 0), .nils, .nils] []))), ⟨⟨none, none, .e (.store 3 (.tmp 2) (.tmp 12))⟩, []⟩, (on 3 (.p (.move (ci D 700))))]) (.ret)) (.skip))) (.seq (.region [
 (on 13 (.p (.build [(vi D 0), .nils, .nils] [(0, 1, (ci D 1))]))), (on 4 (.a (.box (.const (.agg [(vi D 0), .nils, .nils]))))), ⟨⟨none, none, .e (.store 3 (.tmp 4) (.tmp 13))⟩, []⟩]) (.seq (.seq (.region [
 (mv 14 0), (on 15 (.p (.move (ci D 0))))]) (.block 0 (.loop (.seq (.region [
 (on 16 (.p (.bin .lss (.tmp 15) (.tmp 14))))]) (.seq (.cond (.tmp 16) (.skip) (.exit 0)) (.seq (.block 1 (.seq (.region [
 (mv 17 15), (mv 5 17)]) (.seq (.region [
 (on 18 (.p (.fieldAddr 1 (.tmp 4)))), (on 19 (.r (.load false 1 (.tmp 18)))), (mv 20 5), (on 21 (.p (.bin .mul (.tmp 20) (ci D 4294967296)))), (mv 22 0), (on 23 (.p (.bin .quo (.tmp 21) (.tmp 22)))), (on 24 (.a (.bslice [(vi D 0)] 1 1 [(0, (.tmp 23))]))), (on 25 (.e (.append 1 8 (.tmp 19) (.tmp 24)))), (on 26 (.p (.fieldAddr 1 (.tmp 4)))), ⟨⟨none, none, .e (.store 1 (.tmp 26) (.tmp 25))⟩, []⟩]) (.region [(on 27 (.p (.fieldAddr 2 (.tmp 4)))), (on 28 (.r (.load false 1 (.tmp 27)))), (mv 29 5), (on 30 (.a (.bslice [(vi D 0)] 1 1 [(0, (.tmp 29))]))), (on 31 (.e (.append 1 8 (.tmp 28) (.tmp 30)))), (on 32 (.p (.fieldAddr 2 (.tmp 4)))), ⟨⟨none, none, .e (.store 1 (.tmp 32) (.tmp 31))⟩, []⟩])))) (.region [(on 33 (.p (.bin .add (.tmp 15) (ci D 1)))), (mv 15 33)]))))))) (.seq (.region [
 (on 34 (.r (.load true 3 (.tmp 4)))), ⟨⟨none, none, .e (.store 3 (.tmp 2) (.tmp 34))⟩, []⟩, (on 3 (.p (.move (ci D 0))))]) (.ret)))))⟩
theorem lf57_eq (D : Dom I S) : trFunc D (tyFn D) Tryz.f57 = some (lf57 D) := by kernel_rfl
noncomputable def lf58 (D : Dom I S) : LFunc I S := ⟨51, [.tmp 2, .tmp 3], .seq (.region [
 (on 1 (.a (.box (.tmp 0)))), ⟨⟨some 2, none, .p (.move (.const (.str (D.sOf ⟨#[]⟩))))⟩, []⟩, (on 3 (.p (.move (ci D 0))))]) (.seq (.seq (.region [
 (on 5 (.call (.const (.func 120 [] [])) [(.tmp 1)])), (on 6 (.p (.un .not (.tmp 5))))]) (.cond (.tmp 6) (.seq (.region [
 ⟨⟨some 2, none, .p (.move (.const (.str (D.sOf ⟨#[]⟩))))⟩, []⟩, (on 3 (.p (.move (ci D 1100))))]) (.ret)) (.skip))) (.seq (.region [
 (on 7 (.p (.build [.nils] []))), (on 8 (.a (.box (.tmp 7)))), (mv 4 8)]) (.seq (.region [
 (mv 9 4), (on 10 (.p (.fieldAddr 0 (.tmp 1)))), (on 11 (.r (.load false 1 (.tmp 10)))), (on 12 (.call (.const (.func 81 [] [])) [(.tmp 9), (.tmp 11), (ci D 1)]))]) (.seq (.seq (.region [
 (on 13 (.p (.fieldAddr 0 (.tmp 1)))), (on 14 (.r (.load false 1 (.tmp 13)))), (on 15 (.p (.bin .eql (.tmp 14) (ci D 0))))]) (.cond (.tmp 15) (.region [(mv 16 4), (on 17 (.p (.fieldAddr 5 (.tmp 1)))), (on 18 (.call (.const (.func 121 [] [])) [(.tmp 16), (.tmp 17)]))]) (.region [(mv 19 4), (on 20 (.p (.fieldAddr 1 (.tmp 1)))), (on 21 (.r (.load true 2 (.tmp 20)))), (on 22 (.call (.const (.func 82 [] [])) [(.tmp 19), (.tmp 21)]))]))) (.seq (.seq (.region [
 (on 23 (.p (.fieldAddr 0 (.tmp 1)))), (on 24 (.r (.load false 1 (.tmp 23))))]) (.block 0 (.seq (.seq (.region [
 (on 26 (.p (.bin .eql (.tmp 24) (ci D 1)))), (mv 25 26)]) (.cond (.tmp 25) (.skip) (.region [(on 27 (.p (.bin .eql (.tmp 24) (ci D 2)))), (mv 25 27)]))) (.cond (.tmp 25) (.region [(mv 28 4), (on 29 (.p (.fieldAddr 3 (.tmp 1)))), (on 30 (.r (.load false 1 (.tmp 29)))), (on 31 (.p (.fieldAddr 8 (.tmp 1)))), (on 32 (.r (.load false 1 (.tmp 31)))), (on 33 (.call (.const (.func 83 [] [])) [(.tmp 28), (.tmp 30), (.tmp 32)]))]) (.seq (.region [
 (on 35 (.p (.bin .eql (.tmp 24) (ci D 3)))), (mv 34 35)]) (.cond (.tmp 34) (.region [(mv 36 4), (on 37 (.p (.fieldAddr 4 (.tmp 1)))), (on 38 (.r (.load false 1 (.tmp 37)))), (on 39 (.call (.const (.func 84 [] [])) [(.tmp 36), (.tmp 38)]))]) (.skip))))))) (.seq (.seq (.region [
 (mv 40 4), (on 41 (.p (.nilchk (.tmp 40)))), (on 42 (.p (.fieldAddr 0 (.tmp 41)))), (on 43 (.r (.load false 1 (.tmp 42)))), (on 44 (.p (.len (.tmp 43)))), (on 45 (.p (.bin .gtr (.tmp 44) (ci D 8192))))]) (.cond (.tmp 45) (.seq (.region [
 ⟨⟨some 2, none, .p (.move (.const (.str (D.sOf ⟨#[]⟩))))⟩, []⟩, (on 3 (.p (.move (ci D 1100))))]) (.ret)) (.skip))) (.seq (.region [
 (mv 46 4), (on 47 (.p (.nilchk (.tmp 46)))), (on 48 (.p (.fieldAddr 0 (.tmp 47)))), (on 49 (.r (.load false 1 (.tmp 48)))), (on 50 (.r (.ofBytes (.tmp 49)))), (mv 2 50), (on 3 (.p (.move (ci D 0))))]) (.ret))))))))⟩
theorem lf58_eq (D : Dom I S) : trFunc D (tyFn D) Tryz.f58 = some (lf58 D) := by kernel_rfl
noncomputable def lf59 (D : Dom I S) : LFunc I S := ⟨22, [.tmp 4], .seq (.region [
 (on 4 (.p (.move (ci D 0))))]) (.seq (.block 0 (.seq (.region [
 (mv 6 0), (on 7 (.r (.eqRef .ptr false (.tmp 6) (.const .nilp)))), (mv 5 7)]) (.cond (.tmp 5) (.seq (.region [
 (on 4 (.p (.move (ci D 1))))]) (.ret)) (.seq (.region [
 (mv 9 1), (on 10 (.p (.lenS (.tmp 9)))), (on 11 (.p (.bin .gtr (.tmp 10) (ci D 8192)))), (mv 8 11)]) (.cond (.tmp 8) (.seq (.region [
 (on 4 (.p (.move (ci D 1000))))]) (.ret)) (.seq (.region [
 (mv 13 1), (on 14 (.p (.lenS (.tmp 13)))), (on 15 (.call (.const (.func 114 [] [])) [(.tmp 14)])), (mv 16 0), (on 17 (.call (.const (.func 122 [] [])) [(.tmp 16)])), (on 18 (.p (.bin .gtr (.tmp 15) (.tmp 17)))), (mv 12 18)]) (.cond (.tmp 12) (.seq (.region [
 (on 4 (.p (.move (ci D 1001))))]) (.ret)) (.skip)))))))) (.seq (.region [
 (mv 19 0), (mv 20 1), (on 21 (.call (.const (.func 123 [] [])) [(.tmp 19), (.tmp 20)]))]) (.seq (.region [
 (on 4 (.p (.move (ci D 0))))]) (.ret))))⟩
theorem lf59_eq (D : Dom I S) : trFunc D (tyFn D) Tryz.f59 = some (lf59 D) := by kernel_rfl
noncomputable def lf60 (D : Dom I S) : LFunc I S := ⟨10, [.tmp 2], .seq (.region [
 (on 2 (.p (.move (ci D 0))))]) (.seq (.seq (.region [
 (mv 3 0), (on 4 (.r (.eqRef .ptr false (.tmp 3) (.const .nilp))))]) (.cond (.tmp 4) (.seq (.region [
 (on 2 (.p (.move (ci D 1))))]) (.ret)) (.skip))) (.seq (.region [
 (mv 5 0), (on 6 (.p (.nilchk (.tmp 5)))), (on 7 (.p (.fieldAddr 0 (.tmp 6)))), (on 8 (.r (.load false 1 (.tmp 7)))), (on 9 (.call (.const (.func 119 [] [])) [(.tmp 8)])), (mv 2 9)]) (.ret)))⟩
theorem lf60_eq (D : Dom I S) : trFunc D (tyFn D) Tryz.f60 = some (lf60 D) := by kernel_rfl
noncomputable def lf61 (D : Dom I S) : LFunc I S := ⟨54, [.cell 2 true 9, .tmp 3], .seq (.region [
 (on 2 (.a (.box (.const (.agg [(vi D 0), (vi D 0), (vi D 0), (vi D 0), (.bool false), (vi D 0), .nils, .nils, .nils]))))), (on 3 (.p (.move (ci D 0))))]) (.seq (.region [
 (mv 8 0), ⟨⟨some 9, none, .p (.build [(.str (D.sOf ⟨#[]⟩))] [(0, 1, (.tmp 8))])⟩, []⟩, (on 10 (.a (.box (.tmp 9)))), (mv 4 10)]) (.seq (.region [
 (mv 11 4), (on 12 (.call (.const (.func 124 [] [])) [(.tmp 11), (ci D 1)])), (on 13 (.p (.build [(vi D 0), (vi D 0), (vi D 0), (vi D 0), (.bool false), (vi D 0), .nils, .nils, .nils] [(0, 1, (.tmp 12))]))), (on 5 (.a (.box (.const (.agg [(vi D 0), (vi D 0), (vi D 0), (vi D 0), (.bool false), (vi D 0), .nils, .nils, .nils]))))), ⟨⟨none, none, .e (.store 9 (.tmp 5) (.tmp 13))⟩, []⟩]) (.seq (.seq (.region [
 (on 14 (.p (.fieldAddr 0 (.tmp 5)))), (on 15 (.r (.load false 1 (.tmp 14)))), (on 16 (.p (.bin .eql (.tmp 15) (ci D 0))))]) (.cond (.tmp 16) (.region [(mv 17 4), (on 18 (.call (.const (.func 125 [] [])) [(.tmp 17)])), (on 19 (.p (.fieldAddr 5 (.tmp 5)))), ⟨⟨none, none, .e (.store 3 (.tmp 19) (.tmp 18))⟩, []⟩]) (.region [(mv 20 4), (on 21 (.call (.const (.func 126 [] [])) [(.tmp 20)])), (on 22 (.p (.fieldAddr 1 (.tmp 5)))), ⟨⟨none, none, .e (.store 2 (.tmp 22) (.tmp 21))⟩, []⟩]))) (.seq (.seq (.region [
 (on 23 (.p (.fieldAddr 0 (.tmp 5)))), (on 24 (.r (.load false 1 (.tmp 23))))]) (.block 0 (.seq (.seq (.region [
 (on 26 (.p (.bin .eql (.tmp 24) (ci D 1)))), (mv 25 26)]) (.cond (.tmp 25) (.skip) (.region [(on 27 (.p (.bin .eql (.tmp 24) (ci D 2)))), (mv 25 27)]))) (.cond (.tmp 25) (.region [(mv 29 4), (on 30 (.call (.const (.func 127 [] [])) [(.tmp 29)])), (mv 28 30), (on 31 (.p (.extract 0 (.tmp 28)))), (on 32 (.p (.extract 1 (.tmp 28)))), (on 33 (.p (.fieldAddr 3 (.tmp 5)))), ⟨⟨none, none, .e (.store 1 (.tmp 33) (.tmp 31))⟩, []⟩, (on 34 (.p (.fieldAddr 8 (.tmp 5)))), ⟨⟨none, none, .e (.store 1 (.tmp 34) (.tmp 32))⟩, []⟩]) (.seq (.region [
 (on 36 (.p (.bin .eql (.tmp 24) (ci D 3)))), (mv 35 36)]) (.cond (.tmp 35) (.region [(mv 37 4), (on 38 (.call (.const (.func 128 [] [])) [(.tmp 37)])), (on 39 (.p (.fieldAddr 4 (.tmp 5)))), ⟨⟨none, none, .e (.store 1 (.tmp 39) (.tmp 38))⟩, []⟩]) (.skip))))))) (.seq (.seq (.region [
 (on 41 (.r (.load true 9 (.tmp 5)))), (on 42 (.call (.const (.func 58 [] [])) [(.tmp 41)])), (mv 40 42), (on 43 (.p (.extract 0 (.tmp 40)))), (on 44 (.p (.extract 1 (.tmp 40)))), (mv 6 43), (mv 7 44)]) (.seq (.region [
 (mv 45 7), (on 46 (.p (.bin .neq (.tmp 45) (ci D 0)))), (mv 47 46), ⟨⟨some 48, some (some 47, false), .p (.move (.tmp 6))⟩, []⟩,
 ⟨⟨some 49, some (some 47, false), .p (.move (.tmp 0))⟩, []⟩,
 ⟨⟨some 50, some (some 47, false), .p (.bin .neq (.tmp 48) (.tmp 49))⟩, []⟩, (on 51 (.p (.pick (.tmp 47) (.const (.bool true)) (.tmp 50))))]) (.cond (.tmp 51) (.seq (.region [
 (on 52 (.p (.build [(vi D 0), (vi D 0), (vi D 0), (vi D 0), (.bool false), (vi D 0), .nils, .nils, .nils] []))), ⟨⟨none, none, .e (.store 9 (.tmp 2) (.tmp 52))⟩, []⟩, (on 3 (.p (.move (ci D 1100))))]) (.ret)) (.skip)))) (.seq (.region [
 (on 53 (.r (.load true 9 (.tmp 5)))), ⟨⟨none, none, .e (.store 9 (.tmp 2) (.tmp 53))⟩, []⟩, (on 3 (.p (.move (ci D 0))))]) (.ret)))))))⟩
theorem lf61_eq (D : Dom I S) : trFunc D (tyFn D) Tryz.f61 = some (lf61 D) := by kernel_rfl
noncomputable def lf62 (D : Dom I S) : LFunc I S := ⟨50, [.tmp 4], .seq (.region [
 (on 4 (.p (.move (.const (.bool false)))))]) (.seq (.seq (.region [
 (mv 7 0), (on 8 (.p (.len (.tmp 7)))), (on 9 (.p (.move (ci D 0))))]) (.block 0 (.loop (.seq (.region [
 (on 10 (.p (.bin .lss (.tmp 9) (.tmp 8))))]) (.seq (.cond (.tmp 10) (.skip) (.exit 0)) (.seq (.block 1 (.seq (.region [
 (mv 11 9), (on 12 (.p (.idxSl 9 (.tmp 7) (.tmp 9)))), (on 13 (.r (.load true 9 (.tmp 12)))), (on 6 (.a (.box (.const (.agg [(vi D 0), (vi D 0), (vi D 0), (vi D 0), (.bool false), (vi D 0), .nils, .nils, .nils]))))), (mv 5 11), ⟨⟨none, none, .e (.store 9 (.tmp 6) (.tmp 13))⟩, []⟩]) (.seq (.seq (.region [
 (on 14 (.call (.const (.func 120 [] [])) [(.tmp 6)])), (on 15 (.p (.un .not (.tmp 14)))), (mv 16 15), ⟨⟨some 17, some (some 16, false), .p (.fieldAddr 0 (.tmp 6))⟩, []⟩,
 ⟨⟨some 18, some (some 16, false), .r (.load false 1 (.tmp 17))⟩, []⟩,
 ⟨⟨some 19, some (some 16, false), .p (.bin .eql (.tmp 18) (ci D 0))⟩, []⟩,
 ⟨⟨some 20, some (some 16, false), .p (.move (.tmp 5))⟩, []⟩,
 ⟨⟨some 21, some (some 16, false), .p (.bin .eql (.tmp 20) (ci D 0))⟩, []⟩,
 ⟨⟨some 22, some (some 16, false), .p (.eqb true (.tmp 19) (.tmp 21))⟩, []⟩, (on 23 (.p (.pick (.tmp 16) (.const (.bool true)) (.tmp 22)))), (mv 24 23), ⟨⟨some 25, some (some 24, false), .p (.move (.tmp 5))⟩, []⟩,
 ⟨⟨some 26, some (some 24, false), .p (.bin .eql (.tmp 25) (ci D 0))⟩, []⟩,
 ⟨⟨some 27, some (some 24, false), .p (.move (.tmp 26))⟩, []⟩,
 ⟨⟨some 28, some (some 27, true), .p (.fieldAddr 5 (.tmp 6))⟩, []⟩,
 ⟨⟨some 29, some (some 27, true), .r (.load true 3 (.tmp 28))⟩, []⟩,
 ⟨⟨some 30, some (some 27, true), .p (.move (.tmp 1))⟩, []⟩,
 ⟨⟨some 31, some (some 27, true), .call (.const (.func 129 [] [])) [(.tmp 29), (.tmp 30)]⟩, []⟩,
 ⟨⟨some 32, some (some 27, true), .p (.un .not (.tmp 31))⟩, []⟩,
 ⟨⟨some 33, some (some 24, false), .p (.pick (.tmp 27) (.tmp 32) (.const (.bool false)))⟩, []⟩, (on 34 (.p (.pick (.tmp 24) (.const (.bool true)) (.tmp 33))))]) (.cond (.tmp 34) (.seq (.region [
 (on 4 (.p (.move (.const (.bool false)))))]) (.ret)) (.skip))) (.seq (.region [
 (on 35 (.p (.fieldAddr 8 (.tmp 6)))), (on 36 (.r (.load false 1 (.tmp 35)))), (on 37 (.p (.len (.tmp 36)))), (on 38 (.p (.bin .gtr (.tmp 37) (ci D 0)))), (mv 39 38), ⟨⟨some 40, some (some 39, true), .p (.fieldAddr 8 (.tmp 6))⟩, []⟩,
 ⟨⟨some 41, some (some 39, true), .r (.load false 1 (.tmp 40))⟩, []⟩,
 ⟨⟨some 42, some (some 39, true), .p (.move (.tmp 1))⟩, []⟩,
 ⟨⟨some 43, some (some 39, true), .call (.const (.func 71 [] [])) [(.tmp 41), (.tmp 42)]⟩, []⟩,
 ⟨⟨some 44, some (some 39, true), .p (.un .not (.tmp 43))⟩, []⟩, (on 45 (.p (.pick (.tmp 39) (.tmp 44) (.const (.bool false)))))]) (.cond (.tmp 45) (.seq (.region [
 (on 4 (.p (.move (.const (.bool false)))))]) (.ret)) (.skip)))))) (.region [(on 46 (.p (.bin .add (.tmp 9) (ci D 1)))), (mv 9 46)]))))))) (.seq (.region [
 (mv 47 0), (on 48 (.p (.len (.tmp 47)))), (on 49 (.p (.bin .gtr (.tmp 48) (ci D 0)))), (mv 4 49)]) (.ret)))⟩
theorem lf62_eq (D : Dom I S) : trFunc D (tyFn D) Tryz.f62 = some (lf62 D) := by kernel_rfl
noncomputable def lf63 (D : Dom I S) : LFunc I S := ⟨29, [.tmp 6, .tmp 7], .seq (.region [
 (on 5 (.a (.box (.tmp 2)))), (on 6 (.p (.move (.const .nilp)))), (on 7 (.p (.move (ci D 0))))]) (.seq (.seq (.region [
 (on 8 (.r (.load true 3 (.tmp 5)))), (mv 9 1), (on 10 (.call (.const (.func 129 [] [])) [(.tmp 8), (.tmp 9)])), (on 11 (.p (.un .not (.tmp 10)))), (mv 12 11), ⟨⟨some 13, some (some 12, false), .p (.move (.tmp 0))⟩, []⟩,
 ⟨⟨some 14, some (some 12, false), .p (.bin .lss (.tmp 13) (ci D 0))⟩, []⟩, (on 15 (.p (.pick (.tmp 12) (.const (.bool true)) (.tmp 14)))), (mv 16 15), ⟨⟨some 17, some (some 16, false), .p (.move (.tmp 0))⟩, []⟩,
 ⟨⟨some 18, some (some 16, false), .p (.move (.tmp 1))⟩, []⟩,
 ⟨⟨some 19, some (some 16, false), .p (.bin .geq (.tmp 17) (.tmp 18))⟩, []⟩, (on 20 (.p (.pick (.tmp 16) (.const (.bool true)) (.tmp 19))))]) (.cond (.tmp 20) (.seq (.region [
 (on 6 (.p (.move (.const .nilp)))), (on 7 (.p (.move (ci D 1400))))]) (.ret)) (.skip))) (.seq (.region [
 (mv 21 0), (mv 22 1), (on 23 (.r (.load true 3 (.tmp 5)))), (on 24 (.call (.const (.func 130 [] [])) [(.tmp 23)])), (on 25 (.a (.mkmap))), (on 26 (.call (.const (.func 131 [] [])) [])), (on 27 (.p (.build [(vi D 0), (vi D 0), (vi D 0), .nils, .nils, .nilm, .nilp] [(0, 1, (.tmp 21)), (1, 1, (.tmp 22)), (2, 3, (.tmp 24)), (5, 1, (.tmp 25)), (6, 1, (.tmp 26))]))), (on 28 (.a (.box (.tmp 27)))), (mv 6 28), (on 7 (.p (.move (ci D 0))))]) (.ret)))⟩
theorem lf63_eq (D : Dom I S) : trFunc D (tyFn D) Tryz.f63 = some (lf63 D) := by kernel_rfl
noncomputable def lf64 (D : Dom I S) : LFunc I S := ⟨88, [], .seq (.region [
 (on 3 (.a (.box (.tmp 1))))]) (.seq (.region [
 (on 4 (.r (.load false 1 (.tmp 3)))), (on 5 (.p (.nilchk (.tmp 4)))), (on 6 (.p (.fieldAddr 0 (.tmp 5)))), (on 7 (.r (.load false 1 (.tmp 6))))]) (.block 0 (.seq (.region [
 (on 9 (.p (.bin .eql (.tmp 7) (ci D 1)))), (mv 8 9)]) (.cond (.tmp 8) (.seq (.region [
 (mv 10 0), (mv 11 0), (on 12 (.p (.nilchk (.tmp 11)))), (on 13 (.p (.fieldAddr 1 (.tmp 12)))), (on 14 (.p (.fieldAddr 6 (.tmp 13)))), (on 15 (.r (.load false 1 (.tmp 14)))), (on 16 (.r (.load false 1 (.tmp 3)))), (on 17 (.call (.const (.func 132 [] [])) [(.tmp 15), (.tmp 16)])), (on 18 (.p (.nilchk (.tmp 10)))), (on 19 (.p (.fieldAddr 1 (.tmp 18)))), (on 20 (.p (.fieldAddr 6 (.tmp 19)))), ⟨⟨none, none, .e (.store 1 (.tmp 20) (.tmp 17))⟩, []⟩]) (.seq (.region [
 (on 21 (.r (.load false 1 (.tmp 3)))), (on 22 (.p (.nilchk (.tmp 21)))), (on 23 (.p (.fieldAddr 1 (.tmp 22)))), (on 24 (.p (.fieldAddr 0 (.tmp 23)))), (on 25 (.r (.load false 1 (.tmp 24)))), (mv 26 0), (on 27 (.p (.nilchk (.tmp 26)))), (on 28 (.p (.fieldAddr 0 (.tmp 27)))), (on 29 (.r (.load false 1 (.tmp 28)))), (on 30 (.p (.bin .eql (.tmp 25) (.tmp 29))))]) (.cond (.tmp 30) (.region [(mv 31 0), (mv 32 0), (on 33 (.p (.nilchk (.tmp 32)))), (on 34 (.p (.fieldAddr 1 (.tmp 33)))), (on 35 (.p (.fieldAddr 9 (.tmp 34)))), (on 36 (.r (.load false 1 (.tmp 35)))), (on 37 (.r (.load false 1 (.tmp 3)))), (on 38 (.p (.nilchk (.tmp 37)))), (on 39 (.p (.fieldAddr 1 (.tmp 38)))), (on 40 (.p (.fieldAddr 1 (.tmp 39)))), (on 41 (.r (.load false 1 (.tmp 40)))), (on 42 (.p (.max [(.tmp 36), (.tmp 41)]))), (on 43 (.p (.nilchk (.tmp 31)))), (on 44 (.p (.fieldAddr 1 (.tmp 43)))), (on 45 (.p (.fieldAddr 9 (.tmp 44)))), ⟨⟨none, none, .e (.store 1 (.tmp 45) (.tmp 42))⟩, []⟩]) (.skip)))) (.seq (.region [
 (on 47 (.p (.bin .eql (.tmp 7) (ci D 2)))), (mv 46 47)]) (.cond (.tmp 46) (.seq (.region [
 (mv 48 0), (on 49 (.p (.nilchk (.tmp 48)))), (on 50 (.p (.fieldAddr 1 (.tmp 49)))), (on 51 (.p (.fieldAddr 8 (.tmp 50)))), (on 52 (.r (.load false 1 (.tmp 51)))), (on 53 (.r (.load false 1 (.tmp 3)))), (on 54 (.p (.nilchk (.tmp 53)))), (on 55 (.p (.fieldAddr 1 (.tmp 54)))), (on 56 (.r (.load true 2 (.tmp 55)))), (on 57 (.call (.const (.func 133 [] [])) [(.tmp 52), (.tmp 56)])), (on 58 (.p (.un .not (.tmp 57))))]) (.cond (.tmp 58) (.region [(mv 59 0), (mv 60 0), (on 61 (.p (.nilchk (.tmp 60)))), (on 62 (.p (.fieldAddr 1 (.tmp 61)))), (on 63 (.p (.fieldAddr 5 (.tmp 62)))), (on 64 (.r (.load false 1 (.tmp 63)))), (on 65 (.r (.load false 1 (.tmp 3)))), (on 66 (.call (.const (.func 132 [] [])) [(.tmp 64), (.tmp 65)])), (on 67 (.p (.nilchk (.tmp 59)))), (on 68 (.p (.fieldAddr 1 (.tmp 67)))), (on 69 (.p (.fieldAddr 5 (.tmp 68)))), ⟨⟨none, none, .e (.store 1 (.tmp 69) (.tmp 66))⟩, []⟩]) (.skip))) (.seq (.region [
 (on 71 (.p (.bin .eql (.tmp 7) (ci D 3)))), (mv 70 71)]) (.cond (.tmp 70) (.region [(mv 72 0), (on 73 (.r (.load false 1 (.tmp 3)))), (on 74 (.call (.const (.func 134 [] [])) [(.tmp 72), (.tmp 73)]))]) (.seq (.region [
 (on 76 (.p (.bin .eql (.tmp 7) (ci D 4)))), (mv 75 76)]) (.cond (.tmp 75) (.region [(mv 77 0), (mv 78 0), (on 79 (.p (.nilchk (.tmp 78)))), (on 80 (.p (.fieldAddr 1 (.tmp 79)))), (on 81 (.p (.fieldAddr 7 (.tmp 80)))), (on 82 (.r (.load false 1 (.tmp 81)))), (on 83 (.p (.mkfunc 136 [] [(.tmp 3)]))), (on 84 (.call (.const (.func 135 [] [])) [(.tmp 82), (.tmp 83)])), (on 85 (.p (.nilchk (.tmp 77)))), (on 86 (.p (.fieldAddr 1 (.tmp 85)))), (on 87 (.p (.fieldAddr 7 (.tmp 86)))), ⟨⟨none, none, .e (.store 1 (.tmp 87) (.tmp 84))⟩, []⟩]) (.skip)))))))))))⟩
theorem lf64_eq (D : Dom I S) : trFunc D (tyFn D) Tryz.f64 = some (lf64 D) := by kernel_rfl
noncomputable def lf65 (D : Dom I S) : LFunc I S := ⟨11, [.cell 2 true 3], .seq (.region [
 (on 2 (.a (.box (.const (.agg [(vi D 0), .nils, .nils])))))]) (.seq (.seq (.region [
 (mv 3 0), (on 4 (.r (.eqRef .ptr false (.tmp 3) (.const .nilp))))]) (.cond (.tmp 4) (.seq (.region [
 (on 5 (.p (.build [(vi D 0), .nils, .nils] []))), ⟨⟨none, none, .e (.store 3 (.tmp 2) (.tmp 5))⟩, []⟩]) (.ret)) (.skip))) (.seq (.region [
 (mv 6 0), (on 7 (.p (.nilchk (.tmp 6)))), (on 8 (.p (.fieldAddr 2 (.tmp 7)))), (on 9 (.r (.load true 3 (.tmp 8)))), (on 10 (.call (.const (.func 130 [] [])) [(.tmp 9)])), ⟨⟨none, none, .e (.store 3 (.tmp 2) (.tmp 10))⟩, []⟩]) (.ret)))⟩
theorem lf65_eq (D : Dom I S) : trFunc D (tyFn D) Tryz.f65 = some (lf65 D) := by kernel_rfl
noncomputable def lf66 (D : Dom I S) : LFunc I S := ⟨31, [.tmp 2], .seq (.region [
 (on 2 (.p (.move (.const (.bool false)))))]) (.seq (.seq (.region [
 (mv 5 0), (on 6 (.p (.len (.tmp 5)))), (on 7 (.p (.move (ci D 0))))]) (.block 0 (.loop (.seq (.region [
 (on 8 (.p (.bin .lss (.tmp 7) (.tmp 6))))]) (.seq (.cond (.tmp 8) (.skip) (.exit 0)) (.seq (.block 1 (.seq (.region [
 (mv 9 7), (on 10 (.p (.idxSl 3 (.tmp 5) (.tmp 7)))), (on 11 (.r (.load true 3 (.tmp 10)))), (on 4 (.a (.box (.const (.agg [(vi D 0), (vi D 0), .nils]))))), (mv 3 9), ⟨⟨none, none, .e (.store 3 (.tmp 4) (.tmp 11))⟩, []⟩]) (.seq (.region [
 (on 12 (.r (.load true 3 (.tmp 4)))), (on 13 (.call (.const (.func 137 [] [])) [(.tmp 12)])), (on 14 (.p (.un .not (.tmp 13)))), (mv 15 14), ⟨⟨some 16, some (some 15, false), .p (.move (.tmp 3))⟩, []⟩,
 ⟨⟨some 17, some (some 15, false), .p (.bin .gtr (.tmp 16) (ci D 0))⟩, []⟩,
 ⟨⟨some 18, some (some 15, false), .p (.move (.tmp 17))⟩, []⟩,
 ⟨⟨some 19, some (some 18, true), .p (.move (.tmp 0))⟩, []⟩,
 ⟨⟨some 20, some (some 18, true), .p (.move (.tmp 3))⟩, []⟩,
 ⟨⟨some 21, some (some 18, true), .p (.bin .sub (.tmp 20) (ci D 1))⟩, []⟩,
 ⟨⟨some 22, some (some 18, true), .p (.idxSl 3 (.tmp 19) (.tmp 21))⟩, []⟩,
 ⟨⟨some 23, some (some 18, true), .p (.fieldAddr 0 (.tmp 22))⟩, []⟩,
 ⟨⟨some 24, some (some 18, true), .r (.load false 1 (.tmp 23))⟩, []⟩,
 ⟨⟨some 25, some (some 18, true), .p (.fieldAddr 0 (.tmp 4))⟩, []⟩,
 ⟨⟨some 26, some (some 18, true), .r (.load false 1 (.tmp 25))⟩, []⟩,
 ⟨⟨some 27, some (some 18, true), .p (.bin .geq (.tmp 24) (.tmp 26))⟩, []⟩,
 ⟨⟨some 28, some (some 15, false), .p (.pick (.tmp 18) (.tmp 27) (.const (.bool false)))⟩, []⟩, (on 29 (.p (.pick (.tmp 15) (.const (.bool true)) (.tmp 28))))]) (.cond (.tmp 29) (.seq (.region [
 (on 2 (.p (.move (.const (.bool false)))))]) (.ret)) (.skip))))) (.region [(on 30 (.p (.bin .add (.tmp 7) (ci D 1)))), (mv 7 30)]))))))) (.seq (.region [
 (on 2 (.p (.move (.const (.bool true)))))]) (.ret)))⟩
theorem lf66_eq (D : Dom I S) : trFunc D (tyFn D) Tryz.f66 = some (lf66 D) := by kernel_rfl
noncomputable def lf67 (D : Dom I S) : LFunc I S := ⟨18, [], .seq (.region [
 (mv 6 1), (on 7 (.p (.len (.tmp 6)))), (on 8 (.p (.move (ci D 0))))]) (.block 0 (.loop (.seq (.region [
 (on 9 (.p (.bin .lss (.tmp 8) (.tmp 7))))]) (.seq (.cond (.tmp 9) (.skip) (.exit 0)) (.seq (.block 1 (.seq (.region [
 (on 10 (.p (.idxSl 3 (.tmp 6) (.tmp 8)))), (on 11 (.r (.load true 3 (.tmp 10)))), (on 5 (.a (.box (.const (.agg [(vi D 0), (vi D 0), .nils]))))), ⟨⟨none, none, .e (.store 3 (.tmp 5) (.tmp 11))⟩, []⟩]) (.region [(mv 12 0), (on 13 (.r (.load true 3 (.tmp 5)))), (on 14 (.p (.build [(vi D 0), (vi D 0), (vi D 0), .nils, (vi D 0), (vi D 0), .nils, .nils] [(0, 1, (ci D 0)), (1, 3, (.tmp 13))]))), (on 15 (.a (.bslice [(vi D 0), (vi D 0), (vi D 0), .nils, (vi D 0), (vi D 0), .nils, .nils] 1 8 [(0, (.tmp 14))]))), (on 16 (.call (.const (.func 138 [] [])) [(.tmp 12), (.tmp 15)]))]))) (.region [(on 17 (.p (.bin .add (.tmp 8) (ci D 1)))), (mv 8 17)]))))))⟩
theorem lf67_eq (D : Dom I S) : trFunc D (tyFn D) Tryz.f67 = some (lf67 D) := by kernel_rfl
noncomputable def lf68 (D : Dom I S) : LFunc I S := ⟨5, [.tmp 0], .seq (.region [
 (on 0 (.p (.move (.const .nilp))))]) (.seq (.region [
 (on 1 (.a (.mkmap))), (on 2 (.a (.mkmap))), (on 3 (.p (.build [.nilm, .nilm, .nils] [(0, 1, (.tmp 1)), (1, 1, (.tmp 2))]))), (on 4 (.a (.box (.tmp 3)))), (mv 0 4)]) (.ret))⟩
theorem lf68_eq (D : Dom I S) : trFunc D (tyFn D) Tryz.f68 = some (lf68 D) := by kernel_rfl
noncomputable def lf69 (D : Dom I S) : LFunc I S := ⟨8, [.tmp 2], .seq (.region [
 (on 2 (.p (.move (.const .nils))))]) (.seq (.seq (.region [
 (mv 3 0), (on 4 (.r (.eqRef .sl false (.tmp 3) (.const .nils))))]) (.cond (.tmp 4) (.seq (.region [
 (on 2 (.p (.move (.const .nils))))]) (.ret)) (.skip))) (.seq (.region [
 (on 5 (.a (.bslice [(vi D 0), (vi D 0), (.bool false)] 0 3 []))), (mv 6 0), (on 7 (.e (.append 3 24 (.tmp 5) (.tmp 6)))), (mv 2 7)]) (.ret)))⟩
theorem lf69_eq (D : Dom I S) : trFunc D (tyFn D) Tryz.f69 = some (lf69 D) := by kernel_rfl
noncomputable def lf70 (D : Dom I S) : LFunc I S := ⟨21, [.tmp 2], .seq (.region [
 (on 1 (.a (.box (.tmp 0)))), (on 2 (.p (.move (.const (.bool false)))))]) (.seq (.region [
 (on 3 (.p (.fieldAddr 0 (.tmp 1)))), (on 4 (.r (.load false 1 (.tmp 3)))), (on 5 (.p (.bin .geq (.tmp 4) (ci D 0)))), (mv 6 5), ⟨⟨some 7, some (some 6, true), .p (.fieldAddr 0 (.tmp 1))⟩, []⟩,
 ⟨⟨some 8, some (some 6, true), .r (.load false 1 (.tmp 7))⟩, []⟩,
 ⟨⟨some 9, some (some 6, true), .p (.bin .lss (.tmp 8) (ci D 8))⟩, []⟩, (on 10 (.p (.pick (.tmp 6) (.tmp 9) (.const (.bool false))))), (mv 11 10), ⟨⟨some 12, some (some 11, true), .p (.fieldAddr 1 (.tmp 1))⟩, []⟩,
 ⟨⟨some 13, some (some 11, true), .r (.load false 1 (.tmp 12))⟩, []⟩,
 ⟨⟨some 14, some (some 11, true), .p (.bin .geq (.tmp 13) (ci D 1))⟩, []⟩, (on 15 (.p (.pick (.tmp 11) (.tmp 14) (.const (.bool false))))), (mv 16 15), ⟨⟨some 17, some (some 16, true), .p (.fieldAddr 1 (.tmp 1))⟩, []⟩,
 ⟨⟨some 18, some (some 16, true), .r (.load false 1 (.tmp 17))⟩, []⟩,
 ⟨⟨some 19, some (some 16, true), .p (.bin .leq (.tmp 18) (ci D 65535))⟩, []⟩, (on 20 (.p (.pick (.tmp 16) (.tmp 19) (.const (.bool false))))), (mv 2 20)]) (.ret))⟩
theorem lf70_eq (D : Dom I S) : trFunc D (tyFn D) Tryz.f70 = some (lf70 D) := by kernel_rfl
noncomputable def lf71 (D : Dom I S) : LFunc I S := ⟨51, [.tmp 4], .seq (.region [
 (on 4 (.p (.move (.const (.bool false)))))]) (.seq (.seq (.region [
 (mv 9 0), (on 10 (.p (.len (.tmp 9)))), (on 11 (.p (.bin .lss (.tmp 10) (ci D 1)))), (mv 12 11), ⟨⟨some 13, some (some 12, false), .p (.move (.tmp 0))⟩, []⟩,
 ⟨⟨some 14, some (some 12, false), .p (.len (.tmp 13))⟩, []⟩,
 ⟨⟨some 15, some (some 12, false), .p (.bin .gtr (.tmp 14) (ci D 32))⟩, []⟩, (on 16 (.p (.pick (.tmp 12) (.const (.bool true)) (.tmp 15))))]) (.cond (.tmp 16) (.seq (.region [
 (on 4 (.p (.move (.const (.bool false)))))]) (.ret)) (.skip))) (.seq (.region [
 (on 17 (.a (.mkmap))), (mv 5 17)]) (.seq (.seq (.region [
 (mv 18 0), (on 19 (.p (.len (.tmp 18)))), (on 20 (.p (.move (ci D 0))))]) (.block 0 (.loop (.seq (.region [
 (on 21 (.p (.bin .lss (.tmp 20) (.tmp 19))))]) (.seq (.cond (.tmp 21) (.skip) (.exit 0)) (.seq (.block 1 (.seq (.region [
 (mv 22 20), (mv 6 22)]) (.seq (.region [
 (mv 23 0), (mv 24 6), (on 25 (.p (.idxSl 8 (.tmp 23) (.tmp 24)))), (mv 7 25)]) (.seq (.seq (.region [
 (mv 26 7), (mv 27 1), (on 28 (.call (.const (.func 139 [] [])) [(.tmp 26), (.tmp 27)])), (on 29 (.p (.un .not (.tmp 28)))), (mv 30 29), ⟨⟨some 31, some (some 30, false), .p (.move (.tmp 7))⟩, []⟩,
 ⟨⟨some 32, some (some 30, false), .p (.nilchk (.tmp 31))⟩, []⟩,
 ⟨⟨some 33, some (some 30, false), .p (.fieldAddr 0 (.tmp 32))⟩, []⟩,
 ⟨⟨some 34, some (some 30, false), .r (.load false 1 (.tmp 33))⟩, []⟩,
 ⟨⟨some 35, some (some 30, false), .p (.bin .eql (.tmp 34) (ci D 2))⟩, []⟩,
 ⟨⟨some 36, some (some 30, false), .p (.move (.tmp 35))⟩, []⟩,
 ⟨⟨some 37, some (some 36, true), .p (.move (.tmp 6))⟩, []⟩,
 ⟨⟨some 38, some (some 36, true), .p (.bin .gtr (.tmp 37) (ci D 0))⟩, []⟩,
 ⟨⟨some 39, some (some 30, false), .p (.pick (.tmp 36) (.tmp 38) (.const (.bool false)))⟩, []⟩, (on 40 (.p (.pick (.tmp 30) (.const (.bool true)) (.tmp 39))))]) (.cond (.tmp 40) (.seq (.region [
 (on 4 (.p (.move (.const (.bool false)))))]) (.ret)) (.skip))) (.seq (.region [
 (mv 41 7), (on 42 (.call (.const (.func 140 [] [])) [(.tmp 41)])), (mv 8 42)]) (.seq (.region [
 (mv 43 8), (on 44 (.p (.bin .gtr (.tmp 43) (ci D 0))))]) (.cond (.tmp 44) (.seq (.seq (.region [
 (mv 45 5), (mv 46 8), (on 47 (.r (.lookup 0 (.bool false) false (.tmp 45) (.tmp 46))))]) (.cond (.tmp 47) (.seq (.region [
 (on 4 (.p (.move (.const (.bool false)))))]) (.ret)) (.skip))) (.region [(mv 48 5), (mv 49 8), ⟨⟨none, none, .e (.mapset 0 (.tmp 48) (.tmp 49) (.const (.bool true)))⟩, []⟩])) (.skip)))))))) (.region [(on 50 (.p (.bin .add (.tmp 20) (ci D 1)))), (mv 20 50)]))))))) (.seq (.region [
 (on 4 (.p (.move (.const (.bool true)))))]) (.ret)))))⟩
theorem lf71_eq (D : Dom I S) : trFunc D (tyFn D) Tryz.f71 = some (lf71 D) := by kernel_rfl
noncomputable def lf72 (D : Dom I S) : LFunc I S := ⟨36, [.tmp 6], .seq (.region [
 (on 4 (.a (.box (.tmp 1)))), (on 6 (.p (.move (.const (.bool false)))))]) (.seq (.region [
 (mv 10 2), (on 11 (.call (.const (.func 141 [] [])) [(.tmp 10)])), (mv 9 11), (on 12 (.p (.extract 0 (.tmp 9)))), (on 13 (.p (.extract 1 (.tmp 9)))), (mv 7 12), (mv 8 13)]) (.seq (.seq (.region [
 (mv 14 0), (on 15 (.p (.nilchk (.tmp 14)))), (on 16 (.p (.fieldAddr 3 (.tmp 15)))), (on 17 (.r (.load false 1 (.tmp 16)))), (on 18 (.r (.load true 2 (.tmp 4)))), (mv 19 7), (mv 20 8), (on 21 (.call (.const (.func 142 [] [])) [(.tmp 17), (.tmp 18), (.tmp 19), (.tmp 20)])), (on 22 (.p (.un .not (.tmp 21))))]) (.cond (.tmp 22) (.seq (.region [
 (on 6 (.p (.move (.const (.bool false)))))]) (.ret)) (.skip))) (.seq (.region [
 (mv 23 0), (mv 24 0), (on 25 (.p (.nilchk (.tmp 24)))), (on 26 (.p (.fieldAddr 4 (.tmp 25)))), (on 27 (.r (.load false 1 (.tmp 26)))), (on 28 (.r (.load true 2 (.tmp 4)))), (mv 29 2), ⟨⟨some 30, none, .call (.const (.func 143 [] [])) [(.tmp 29)]⟩, [⟨some 28, none, .r (.load true 2 (.tmp 4))⟩, ⟨some 27, none, .r (.load false 1 (.tmp 26))⟩]⟩, (on 31 (.p (.build [(vi D 0), (vi D 0), .nils, (vi D 0)] [(0, 2, (.tmp 28)), (2, 1, (.tmp 30))]))), (on 32 (.a (.bslice [(vi D 0), (vi D 0), .nils, (vi D 0)] 1 4 [(0, (.tmp 31))]))), (on 33 (.e (.append 4 48 (.tmp 27) (.tmp 32)))), (on 34 (.p (.nilchk (.tmp 23)))), (on 35 (.p (.fieldAddr 4 (.tmp 34)))), ⟨⟨none, none, .e (.store 1 (.tmp 35) (.tmp 33))⟩, []⟩]) (.seq (.region [
 (on 6 (.p (.move (.const (.bool true)))))]) (.ret)))))⟩
theorem lf72_eq (D : Dom I S) : trFunc D (tyFn D) Tryz.f72 = some (lf72 D) := by kernel_rfl
noncomputable def lf73 (D : Dom I S) : LFunc I S := ⟨22, [.tmp 4], .seq (.region [
 (on 4 (.p (.move (.const (.bool false)))))]) (.seq (.seq (.region [
 (mv 5 0), (on 6 (.r (.eqRef .ptr false (.tmp 5) (.const .nilp)))), (mv 7 6), ⟨⟨some 8, some (some 7, false), .p (.move (.tmp 1))⟩, []⟩,
 ⟨⟨some 9, some (some 7, false), .p (.bin .lss (.tmp 8) (ci D 0))⟩, []⟩, (on 10 (.p (.pick (.tmp 7) (.const (.bool true)) (.tmp 9)))), (mv 11 10), ⟨⟨some 12, some (some 11, false), .p (.move (.tmp 1))⟩, []⟩,
 ⟨⟨some 13, some (some 11, false), .p (.move (.tmp 0))⟩, []⟩,
 ⟨⟨some 14, some (some 11, false), .call (.const (.func 122 [] [])) [(.tmp 13)]⟩, []⟩,
 ⟨⟨some 15, some (some 11, false), .p (.bin .gtr (.tmp 12) (.tmp 14))⟩, []⟩, (on 16 (.p (.pick (.tmp 11) (.const (.bool true)) (.tmp 15))))]) (.cond (.tmp 16) (.seq (.region [
 (on 4 (.p (.move (.const (.bool false)))))]) (.ret)) (.skip))) (.seq (.region [
 (mv 17 0), (on 18 (.p (.nilchk (.tmp 17)))), (on 19 (.p (.fieldAddr 3 (.tmp 18)))), (mv 20 1), (on 21 (.call (.const (.func 39 [] [])) [(.tmp 19), (.tmp 20)]))]) (.seq (.region [
 (on 4 (.p (.move (.const (.bool true)))))]) (.ret))))⟩
theorem lf73_eq (D : Dom I S) : trFunc D (tyFn D) Tryz.f73 = some (lf73 D) := by kernel_rfl
noncomputable def lf74 (D : Dom I S) : LFunc I S := ⟨33, [.tmp 4], .seq (.region [
 (on 2 (.a (.box (.tmp 0)))), (on 4 (.p (.move (.const (.bool false)))))]) (.seq (.region [
 (on 9 (.a (.mkmap))), (on 5 (.a (.box (.const .nilm)))), ⟨⟨none, none, .e (.store 1 (.tmp 5) (.tmp 9))⟩, []⟩]) (.seq (.region [
 (on 10 (.p (.mkfunc 144 [] [(.tmp 5), (.tmp 2)]))), (on 6 (.a (.box (.const .nilf)))), ⟨⟨none, none, .e (.store 1 (.tmp 6) (.tmp 10))⟩, []⟩]) (.seq (.seq (.region [
 (mv 11 1), (on 12 (.p (.nilchk (.tmp 11)))), (on 13 (.p (.fieldAddr 6 (.tmp 12)))), (on 14 (.r (.load false 1 (.tmp 13)))), (on 15 (.p (.len (.tmp 14)))), (on 16 (.p (.move (ci D 0))))]) (.block 0 (.loop (.seq (.region [
 (on 17 (.p (.bin .lss (.tmp 16) (.tmp 15))))]) (.seq (.cond (.tmp 17) (.skip) (.exit 0)) (.seq (.block 1 (.seq (.region [
 (on 18 (.p (.idxSl 3 (.tmp 14) (.tmp 16)))), (on 19 (.r (.load true 3 (.tmp 18)))), (on 8 (.a (.box (.const (.agg [(vi D 0), (vi D 0), .nils]))))), ⟨⟨none, none, .e (.store 3 (.tmp 8) (.tmp 19))⟩, []⟩]) (.seq (.region [
 (on 20 (.r (.load false 1 (.tmp 6)))), (on 21 (.p (.fieldAddr 0 (.tmp 8)))), (on 22 (.r (.load true 2 (.tmp 21)))), (on 23 (.call (.tmp 20) [(.tmp 22)])), (on 24 (.p (.un .not (.tmp 23))))]) (.cond (.tmp 24) (.seq (.region [
 (on 4 (.p (.move (.const (.bool false)))))]) (.ret)) (.skip))))) (.region [(on 25 (.p (.bin .add (.tmp 16) (ci D 1)))), (mv 16 25)]))))))) (.seq (.region [
 (mv 26 1), (on 27 (.p (.nilchk (.tmp 26)))), (on 28 (.p (.fieldAddr 7 (.tmp 27)))), (on 29 (.r (.load false 1 (.tmp 28)))), (on 30 (.p (.mkfunc 147 [] [(.tmp 6)]))), (on 31 (.call (.const (.func 146 [] [])) [(.tmp 29), (.tmp 30)])), (on 32 (.p (.un .not (.tmp 31)))), (mv 4 32)]) (.ret)))))⟩
theorem lf74_eq (D : Dom I S) : trFunc D (tyFn D) Tryz.f74 = some (lf74 D) := by kernel_rfl
noncomputable def lf75 (D : Dom I S) : LFunc I S := ⟨8, [.tmp 2], .seq (.region [
 (on 2 (.p (.move (.const .nils))))]) (.seq (.seq (.region [
 (mv 3 0), (on 4 (.r (.eqRef .sl false (.tmp 3) (.const .nils))))]) (.cond (.tmp 4) (.seq (.region [
 (on 2 (.p (.move (.const .nils))))]) (.ret)) (.skip))) (.seq (.region [
 (on 5 (.a (.bslice [.nilp] 0 1 []))), (mv 6 0), (on 7 (.e (.append 1 8 (.tmp 5) (.tmp 6)))), (mv 2 7)]) (.ret)))⟩
theorem lf75_eq (D : Dom I S) : trFunc D (tyFn D) Tryz.f75 = some (lf75 D) := by kernel_rfl
noncomputable def lf76 (D : Dom I S) : LFunc I S := ⟨71, [.tmp 6], .seq (.region [
 (on 4 (.a (.box (.tmp 1)))), (on 6 (.p (.move (.const .nils))))]) (.seq (.region [
 (mv 8 0), (on 9 (.r (.load false 1 (.tmp 4)))), (on 10 (.p (.nilchk (.tmp 9)))), (on 11 (.p (.fieldAddr 0 (.tmp 10)))), (on 12 (.r (.load true 2 (.tmp 11)))), (mv 13 2), (on 14 (.p (.build [(vi D 0), (vi D 0), (vi D 0), (vi D 0), (.bool false), (vi D 0), .nils, .nils, .nils] [(0, 1, (ci D 3)), (1, 2, (.tmp 12)), (4, 1, (.tmp 13))]))), (on 15 (.call (.const (.func 148 [] [])) [(.tmp 8), (.tmp 14)]))]) (.seq (.region [
 (mv 16 0), (on 17 (.p (.nilchk (.tmp 16)))), (on 18 (.p (.fieldAddr 3 (.tmp 17)))), (on 19 (.r (.load false 1 (.tmp 18)))), (on 20 (.call (.const (.func 60 [] [])) [(.tmp 19)]))]) (.seq (.region [
 (mv 21 0), (on 22 (.p (.nilchk (.tmp 21)))), (on 23 (.p (.fieldAddr 2 (.tmp 22)))), (on 24 (.r (.load false 1 (.tmp 23)))), (on 25 (.r (.load false 1 (.tmp 4)))), (on 26 (.p (.nilchk (.tmp 25)))), (on 27 (.p (.fieldAddr 0 (.tmp 26)))), (on 28 (.r (.load true 2 (.tmp 27)))), (mv 29 2), (on 30 (.call (.const (.func 149 [] [])) [(.tmp 24), (.tmp 28), (.tmp 29)]))]) (.seq (.region [
 (mv 31 0), (mv 32 0), (on 33 (.p (.nilchk (.tmp 32)))), (on 34 (.p (.fieldAddr 5 (.tmp 33)))), (on 35 (.r (.load false 1 (.tmp 34)))), (on 36 (.p (.mkfunc 151 [] [(.tmp 4)]))), (on 37 (.call (.const (.func 150 [] [])) [(.tmp 35), (.tmp 36)])), (on 38 (.p (.nilchk (.tmp 31)))), (on 39 (.p (.fieldAddr 5 (.tmp 38)))), ⟨⟨none, none, .e (.store 1 (.tmp 39) (.tmp 37))⟩, []⟩]) (.seq (.region [
 (on 40 (.r (.load false 1 (.tmp 4)))), (on 41 (.p (.nilchk (.tmp 40)))), (on 42 (.p (.fieldAddr 0 (.tmp 41)))), (on 43 (.r (.load true 2 (.tmp 42)))), (mv 44 2), (on 45 (.p (.build [(vi D 0), (vi D 0), (.bool false)] [(0, 2, (.tmp 43)), (2, 1, (.tmp 44))]))), (mv 46 0), (on 47 (.p (.nilchk (.tmp 46)))), (on 48 (.p (.fieldAddr 0 (.tmp 47)))), (on 49 (.r (.load false 1 (.tmp 48)))), (on 50 (.p (.bin .shl (.const (.int .u64 (D.ofInt (.ofNat 1)))) (.tmp 49)))), (on 51 (.p (.build [(vi D 0), (vi D 0), (.bool false), (.int .u64 (D.ofInt (.ofNat 0)))] [(0, 3, (.tmp 45)), (3, 1, (.tmp 50))]))), (on 52 (.a (.box (.tmp 51)))), (mv 7 52)]) (.seq (.region [
 (mv 53 0), (mv 54 0), (on 55 (.p (.nilchk (.tmp 54)))), (on 56 (.p (.fieldAddr 6 (.tmp 55)))), (on 57 (.r (.load false 1 (.tmp 56)))), (mv 58 7), (on 59 (.a (.bslice [.nilp] 1 1 [(0, (.tmp 58))]))), (on 60 (.e (.append 1 8 (.tmp 57) (.tmp 59)))), (on 61 (.p (.nilchk (.tmp 53)))), (on 62 (.p (.fieldAddr 6 (.tmp 61)))), ⟨⟨none, none, .e (.store 1 (.tmp 62) (.tmp 60))⟩, []⟩]) (.seq (.seq (.region [
 (mv 63 0), (on 64 (.call (.const (.func 78 [] [])) [(.tmp 63)]))]) (.cond (.tmp 64) (.seq (.region [
 (mv 65 0), (mv 66 7), (on 67 (.call (.const (.func 79 [] [])) [(.tmp 65), (.tmp 66)]))]) (.seq (.region [
 (on 6 (.p (.move (.const .nils))))]) (.ret))) (.skip))) (.seq (.region [
 (mv 68 0), (mv 69 7), (on 70 (.call (.const (.func 77 [] [])) [(.tmp 68), (.tmp 69)])), (mv 6 70)]) (.ret)))))))))⟩
theorem lf76_eq (D : Dom I S) : trFunc D (tyFn D) Tryz.f76 = some (lf76 D) := by kernel_rfl
noncomputable def lf78 (D : Dom I S) : LFunc I S := ⟨8, [.tmp 2], .seq (.region [
 (on 2 (.p (.move (.const (.bool false)))))]) (.seq (.region [
 (mv 3 0), (on 4 (.p (.nilchk (.tmp 3)))), (on 5 (.p (.fieldAddr 1 (.tmp 4)))), (on 6 (.r (.load false 1 (.tmp 5)))), (on 7 (.p (.bin .eql (.tmp 6) (ci D 1)))), (mv 2 7)]) (.ret))⟩
theorem lf78_eq (D : Dom I S) : trFunc D (tyFn D) Tryz.f78 = some (lf78 D) := by kernel_rfl
noncomputable def lf79 (D : Dom I S) : LFunc I S := ⟨21, [], .seq (.region [
 (on 3 (.a (.box (.tmp 1))))]) (.seq (.region [
 (mv 4 0), (on 5 (.r (.load false 1 (.tmp 3)))), (on 6 (.p (.nilchk (.tmp 5)))), (on 7 (.p (.fieldAddr 0 (.tmp 6)))), (on 8 (.p (.fieldAddr 0 (.tmp 7)))), (on 9 (.r (.load true 2 (.tmp 8)))), (on 10 (.p (.build [(vi D 0), (vi D 0), (vi D 0), (vi D 0), (.bool false), (vi D 0), .nils, .nils, .nils] [(0, 1, (ci D 4)), (1, 2, (.tmp 9))]))), (on 11 (.call (.const (.func 148 [] [])) [(.tmp 4), (.tmp 10)]))]) (.region [(mv 12 0), (mv 13 0), (on 14 (.p (.nilchk (.tmp 13)))), (on 15 (.p (.fieldAddr 6 (.tmp 14)))), (on 16 (.r (.load false 1 (.tmp 15)))), (on 17 (.p (.mkfunc 154 [] [(.tmp 3)]))), (on 18 (.call (.const (.func 153 [] [])) [(.tmp 16), (.tmp 17)])), (on 19 (.p (.nilchk (.tmp 12)))), (on 20 (.p (.fieldAddr 6 (.tmp 19)))), ⟨⟨none, none, .e (.store 1 (.tmp 20) (.tmp 18))⟩, []⟩]))⟩
theorem lf79_eq (D : Dom I S) : trFunc D (tyFn D) Tryz.f79 = some (lf79 D) := by kernel_rfl
noncomputable def lf80 (D : Dom I S) : LFunc I S := ⟨74, [.cell 2 true 5, .tmp 3], .seq (.region [
 (on 2 (.a (.box (.const (.agg [(.bool false), (.bool false), (.bool false), (.bool false), (.bool false)]))))), (on 3 (.p (.move (.const (.bool false)))))]) (.seq (.region [
 (mv 8 0), (on 9 (.p (.nilchk (.tmp 8)))), (on 10 (.p (.fieldAddr 0 (.tmp 9)))), (on 11 (.r (.load false 1 (.tmp 10)))), (on 12 (.call (.const (.func 155 [] [])) [(.tmp 11)])), (mv 7 12), (on 13 (.p (.extract 0 (.tmp 7)))), (on 14 (.p (.extract 1 (.tmp 7)))), (on 4 (.a (.box (.const (.agg [(.bool false), (.bool false), (.bool false), (.bool false), (.bool false)]))))), ⟨⟨none, none, .e (.store 5 (.tmp 4) (.tmp 13))⟩, []⟩, (mv 5 14)]) (.seq (.region [
 (mv 15 0), (on 16 (.p (.nilchk (.tmp 15)))), (on 17 (.p (.fieldAddr 3 (.tmp 16)))), (on 18 (.r (.load true 2 (.tmp 17)))), (on 19 (.call (.const (.func 70 [] [])) [(.tmp 18)])), (mv 6 19)]) (.seq (.seq (.region [
 (on 20 (.p (.fieldAddr 0 (.tmp 4)))), (on 21 (.r (.load false 1 (.tmp 20)))), (on 22 (.p (.un .not (.tmp 21))))]) (.cond (.tmp 22) (.region [(mv 23 0), (on 24 (.p (.nilchk (.tmp 23)))), (on 25 (.p (.fieldAddr 3 (.tmp 24)))), (on 26 (.r (.load true 2 (.tmp 25)))), (on 27 (.p (.build [(vi D 0), (vi D 0)] []))), (on 28 (.p (.eqAgg false 2 (.tmp 26) (.tmp 27)))), (mv 6 28)]) (.skip))) (.seq (.region [
 (on 29 (.r (.load true 5 (.tmp 4)))), (mv 30 5), (mv 31 30), ⟨⟨some 32, some (some 31, true), .p (.move (.tmp 0))⟩, []⟩,
 ⟨⟨some 33, some (some 31, true), .p (.nilchk (.tmp 32))⟩, []⟩,
 ⟨⟨some 34, some (some 31, true), .p (.fieldAddr 1 (.tmp 33))⟩, []⟩,
 ⟨⟨some 35, some (some 31, true), .r (.load false 1 (.tmp 34))⟩, []⟩,
 ⟨⟨some 36, some (some 31, true), .call (.const (.func 156 [] [])) [(.tmp 35)]⟩, [⟨some 29, none, .r (.load true 5 (.tmp 4))⟩]⟩, (on 37 (.p (.pick (.tmp 31) (.tmp 36) (.const (.bool false))))), (mv 38 37), ⟨⟨some 39, some (some 38, true), .p (.move (.tmp 0))⟩, []⟩,
 ⟨⟨some 40, some (some 38, true), .p (.nilchk (.tmp 39))⟩, []⟩,
 ⟨⟨some 41, some (some 38, true), .p (.fieldAddr 2 (.tmp 40))⟩, []⟩,
 ⟨⟨some 42, some (some 38, true), .r (.load false 1 (.tmp 41))⟩, []⟩,
 ⟨⟨some 43, some (some 38, true), .call (.const (.func 156 [] [])) [(.tmp 42)]⟩, [⟨some 29, none, .r (.load true 5 (.tmp 4))⟩]⟩, (on 44 (.p (.pick (.tmp 38) (.tmp 43) (.const (.bool false))))), (mv 45 44), ⟨⟨some 46, some (some 45, true), .p (.move (.tmp 6))⟩, []⟩, (on 47 (.p (.pick (.tmp 45) (.tmp 46) (.const (.bool false))))), (mv 48 47), ⟨⟨some 49, some (some 48, true), .p (.fieldAddr 2 (.tmp 4))⟩, []⟩,
 ⟨⟨some 50, some (some 48, true), .r (.load false 1 (.tmp 49))⟩, []⟩,
 ⟨⟨some 51, some (some 48, true), .p (.move (.tmp 50))⟩, []⟩,
 ⟨⟨some 52, some (some 51, false), .p (.move (.tmp 0))⟩, []⟩,
 ⟨⟨some 53, some (some 51, false), .p (.nilchk (.tmp 52))⟩, []⟩,
 ⟨⟨some 54, some (some 51, false), .p (.fieldAddr 6 (.tmp 53))⟩, []⟩,
 ⟨⟨some 55, some (some 51, false), .r (.load false 1 (.tmp 54))⟩, []⟩,
 ⟨⟨some 56, some (some 51, false), .p (.un .not (.tmp 55))⟩, []⟩,
 ⟨⟨some 57, some (some 48, true), .p (.pick (.tmp 51) (.const (.bool true)) (.tmp 56))⟩, []⟩, (on 58 (.p (.pick (.tmp 48) (.tmp 57) (.const (.bool false))))), (mv 59 58), ⟨⟨some 60, some (some 59, true), .r (.load true 5 (.tmp 4))⟩, []⟩,
 ⟨⟨some 61, some (some 59, true), .p (.move (.tmp 0))⟩, []⟩,
 ⟨⟨some 62, some (some 59, true), .call (.const (.func 157 [] [])) [(.tmp 60), (.tmp 61)]⟩, [⟨some 29, none, .r (.load true 5 (.tmp 4))⟩]⟩, (on 63 (.p (.pick (.tmp 59) (.tmp 62) (.const (.bool false))))), (mv 64 63), ⟨⟨some 65, some (some 64, true), .r (.load true 5 (.tmp 4))⟩, []⟩,
 ⟨⟨some 66, some (some 64, true), .p (.move (.tmp 0))⟩, []⟩,
 ⟨⟨some 67, some (some 64, true), .call (.const (.func 158 [] [])) [(.tmp 65), (.tmp 66)]⟩, [⟨some 29, none, .r (.load true 5 (.tmp 4))⟩]⟩, (on 68 (.p (.pick (.tmp 64) (.tmp 67) (.const (.bool false))))), (mv 69 68), ⟨⟨some 70, some (some 69, true), .r (.load true 5 (.tmp 4))⟩, []⟩,
 ⟨⟨some 71, some (some 69, true), .p (.move (.tmp 0))⟩, []⟩,
 ⟨⟨some 72, some (some 69, true), .call (.const (.func 159 [] [])) [(.tmp 70), (.tmp 71)]⟩, [⟨some 29, none, .r (.load true 5 (.tmp 4))⟩]⟩, (on 73 (.p (.pick (.tmp 69) (.tmp 72) (.const (.bool false))))), ⟨⟨none, none, .e (.store 5 (.tmp 2) (.tmp 29))⟩, []⟩, (mv 3 73)]) (.ret)))))⟩
theorem lf80_eq (D : Dom I S) : trFunc D (tyFn D) Tryz.f80 = some (lf80 D) := by kernel_rfl
noncomputable def lf81 (D : Dom I S) : LFunc I S := ⟨17, [], .region [(mv 6 0), (mv 7 0), (on 8 (.p (.nilchk (.tmp 7)))), (on 9 (.p (.fieldAddr 0 (.tmp 8)))), (on 10 (.r (.load false 1 (.tmp 9)))), (mv 11 1), (mv 12 2), ⟨⟨some 13, none, .call (.const (.func 160 [] [])) [(.tmp 11), (.tmp 12)]⟩, [⟨some 10, none, .r (.load false 1 (.tmp 9))⟩]⟩, (on 14 (.e (.append 1 1 (.tmp 10) (.tmp 13)))), (on 15 (.p (.nilchk (.tmp 6)))), (on 16 (.p (.fieldAddr 0 (.tmp 15)))), ⟨⟨none, none, .e (.store 1 (.tmp 16) (.tmp 14))⟩, []⟩]⟩
theorem lf81_eq (D : Dom I S) : trFunc D (tyFn D) Tryz.f81 = some (lf81 D) := by kernel_rfl
noncomputable def lf82 (D : Dom I S) : LFunc I S := ⟨12, [], .seq (.region [
 (on 3 (.a (.box (.tmp 1))))]) (.seq (.region [
 (mv 4 0), (on 5 (.p (.fieldAddr 0 (.tmp 3)))), (on 6 (.r (.load false 1 (.tmp 5)))), (on 7 (.call (.const (.func 81 [] [])) [(.tmp 4), (.tmp 6), (ci D 1)]))]) (.region [(mv 8 0), (on 9 (.p (.fieldAddr 1 (.tmp 3)))), (on 10 (.r (.load false 1 (.tmp 9)))), (on 11 (.call (.const (.func 81 [] [])) [(.tmp 8), (.tmp 10), (ci D 2)]))]))⟩
theorem lf82_eq (D : Dom I S) : trFunc D (tyFn D) Tryz.f82 = some (lf82 D) := by kernel_rfl
noncomputable def lf83 (D : Dom I S) : LFunc I S := ⟨55, [], .seq (.region [
 (mv 8 0), (mv 9 1), (on 10 (.p (.bin .add (.tmp 9) (ci D 1)))), (on 11 (.call (.const (.func 81 [] [])) [(.tmp 8), (.tmp 10), (ci D 4)]))]) (.seq (.region [
 (mv 12 0), (mv 13 2), (on 14 (.p (.len (.tmp 13)))), (on 15 (.call (.const (.func 81 [] [])) [(.tmp 12), (.tmp 14), (ci D 1)]))]) (.seq (.region [
 (mv 16 2), (on 17 (.p (.len (.tmp 16)))), (on 18 (.p (.move (ci D 0))))]) (.block 0 (.loop (.seq (.region [
 (on 19 (.p (.bin .lss (.tmp 18) (.tmp 17))))]) (.seq (.cond (.tmp 19) (.skip) (.exit 0)) (.seq (.block 1 (.seq (.region [
 (mv 20 18), (mv 6 20)]) (.seq (.region [
 (mv 21 2), (mv 22 6), (on 23 (.p (.idxSl 8 (.tmp 21) (.tmp 22)))), (mv 7 23)]) (.seq (.region [
 (mv 24 0), (mv 25 7), (on 26 (.p (.nilchk (.tmp 25)))), (on 27 (.p (.fieldAddr 0 (.tmp 26)))), (on 28 (.r (.load false 1 (.tmp 27)))), (on 29 (.call (.const (.func 81 [] [])) [(.tmp 24), (.tmp 28), (ci D 1)]))]) (.seq (.region [
 (mv 30 7), (on 31 (.p (.nilchk (.tmp 30)))), (on 32 (.p (.fieldAddr 0 (.tmp 31)))), (on 33 (.r (.load false 1 (.tmp 32))))]) (.block 2 (.seq (.region [
 (on 40 (.p (.bin .eql (.tmp 33) (ci D 0)))), (mv 39 40)]) (.cond (.tmp 39) (.region [(mv 41 0), (mv 42 7), (on 43 (.p (.nilchk (.tmp 42)))), (on 44 (.p (.fieldAddr 1 (.tmp 43)))), (on 45 (.call (.const (.func 86 [] [])) [(.tmp 41), (.tmp 44)]))]) (.seq (.region [
 (on 47 (.p (.bin .eql (.tmp 33) (ci D 1)))), (mv 46 47)]) (.cond (.tmp 46) (.region [(mv 48 0), (mv 49 7), (on 50 (.p (.nilchk (.tmp 49)))), (on 51 (.p (.fieldAddr 4 (.tmp 50)))), (on 52 (.r (.load false 1 (.tmp 51)))), (on 53 (.call (.const (.func 81 [] [])) [(.tmp 48), (.tmp 52), (ci D 2)]))]) (.region [(mv 34 0), (mv 35 7), (on 36 (.p (.nilchk (.tmp 35)))), (on 37 (.p (.fieldAddr 5 (.tmp 36)))), (on 38 (.call (.const (.func 121 [] [])) [(.tmp 34), (.tmp 37)]))]))))))))))) (.region [(on 54 (.p (.bin .add (.tmp 18) (ci D 1)))), (mv 18 54)]))))))))⟩
theorem lf83_eq (D : Dom I S) : trFunc D (tyFn D) Tryz.f83 = some (lf83 D) := by kernel_rfl
noncomputable def lf84 (D : Dom I S) : LFunc I S := ⟨9, [], .seq (.region [
 (mv 4 1)]) (.cond (.tmp 4) (.region [(mv 5 0), (on 6 (.call (.const (.func 81 [] [])) [(.tmp 5), (ci D 1), (ci D 1)]))]) (.region [(mv 7 0), (on 8 (.call (.const (.func 81 [] [])) [(.tmp 7), (ci D 0), (ci D 1)]))]))⟩
theorem lf84_eq (D : Dom I S) : trFunc D (tyFn D) Tryz.f84 = some (lf84 D) := by kernel_rfl
noncomputable def lf85 (D : Dom I S) : LFunc I S := ⟨22, [], .seq (.region [
 (on 3 (.a (.box (.tmp 1))))]) (.seq (.region [
 (on 6 (.p (.fieldAddr 0 (.tmp 3)))), (on 7 (.r (.load false 1 (.tmp 6)))), (on 8 (.p (.fieldAddr 1 (.tmp 3)))), (on 9 (.r (.load false 1 (.tmp 8)))), (on 10 (.p (.fieldAddr 2 (.tmp 3)))), (on 11 (.r (.load false 1 (.tmp 10)))), (on 12 (.p (.fieldAddr 3 (.tmp 3)))), (on 13 (.r (.load false 1 (.tmp 12)))), (on 14 (.p (.build [(vi D 0), (vi D 0), (vi D 0), (vi D 0)] [(0, 1, (.tmp 7)), (1, 1, (.tmp 9)), (2, 1, (.tmp 11)), (3, 1, (.tmp 13))]))), (on 15 (.p (.move (ci D 0))))]) (.block 0 (.loop (.seq (.region [
 (on 16 (.p (.bin .lss (.tmp 15) (ci D 4))))]) (.seq (.cond (.tmp 16) (.skip) (.exit 0)) (.seq (.block 1 (.seq (.region [
 (on 17 (.p (.idxArr 4 1 false (.tmp 14) (.tmp 15)))), (mv 5 17)]) (.region [(mv 18 0), (mv 19 5), (on 20 (.call (.const (.func 81 [] [])) [(.tmp 18), (.tmp 19), (ci D 4)]))]))) (.region [(on 21 (.p (.bin .add (.tmp 15) (ci D 1)))), (mv 15 21)])))))))⟩
theorem lf85_eq (D : Dom I S) : trFunc D (tyFn D) Tryz.f85 = some (lf85 D) := by kernel_rfl
noncomputable def lf86 (D : Dom I S) : LFunc I S := ⟨56, [], .seq (.region [
 (mv 8 0), (mv 9 1), (on 10 (.p (.nilchk (.tmp 9)))), (on 11 (.p (.fieldAddr 0 (.tmp 10)))), (on 12 (.r (.load false 1 (.tmp 11)))), (on 13 (.call (.const (.func 81 [] [])) [(.tmp 8), (.tmp 12), (ci D 2)]))]) (.seq (.region [
 (mv 14 0), (mv 15 1), (on 16 (.p (.nilchk (.tmp 15)))), (on 17 (.p (.fieldAddr 1 (.tmp 16)))), (on 18 (.r (.load false 1 (.tmp 17)))), (on 19 (.call (.const (.func 81 [] [])) [(.tmp 14), (.tmp 18), (ci D 1)]))]) (.seq (.region [
 (mv 20 0), (mv 21 1), (on 22 (.p (.nilchk (.tmp 21)))), (on 23 (.p (.fieldAddr 2 (.tmp 22)))), (on 24 (.r (.load false 1 (.tmp 23)))), (on 25 (.p (.len (.tmp 24)))), (on 26 (.call (.const (.func 81 [] [])) [(.tmp 20), (.tmp 25), (ci D 1)]))]) (.seq (.region [
 (mv 27 1), (on 28 (.p (.nilchk (.tmp 27)))), (on 29 (.p (.fieldAddr 2 (.tmp 28)))), (on 30 (.r (.load false 1 (.tmp 29)))), (on 31 (.p (.len (.tmp 30)))), (on 32 (.p (.move (ci D 0))))]) (.block 0 (.loop (.seq (.region [
 (on 33 (.p (.bin .lss (.tmp 32) (.tmp 31))))]) (.seq (.cond (.tmp 33) (.skip) (.exit 0)) (.seq (.block 1 (.seq (.region [
 (on 34 (.p (.idxSl 1 (.tmp 30) (.tmp 32)))), (on 35 (.r (.load false 1 (.tmp 34)))), (mv 5 35)]) (.seq (.region [
 (mv 36 0), (mv 37 5), (on 38 (.p (.len (.tmp 37)))), (on 39 (.call (.const (.func 81 [] [])) [(.tmp 36), (.tmp 38), (ci D 1)]))]) (.seq (.region [
 (mv 40 5), (on 41 (.p (.len (.tmp 40)))), (on 42 (.p (.move (ci D 0))))]) (.block 2 (.loop (.seq (.region [
 (on 43 (.p (.bin .lss (.tmp 42) (.tmp 41))))]) (.seq (.cond (.tmp 43) (.skip) (.exit 2)) (.seq (.block 3 (.seq (.region [
 (on 44 (.p (.idxSl 2 (.tmp 40) (.tmp 42)))), (on 45 (.r (.load true 2 (.tmp 44)))), (on 7 (.a (.box (.const (.agg [(vi D 0), (vi D 0)]))))), ⟨⟨none, none, .e (.store 2 (.tmp 7) (.tmp 45))⟩, []⟩]) (.seq (.region [
 (mv 46 0), (on 47 (.p (.fieldAddr 0 (.tmp 7)))), (on 48 (.r (.load false 1 (.tmp 47)))), (on 49 (.call (.const (.func 81 [] [])) [(.tmp 46), (.tmp 48), (ci D 4)]))]) (.region [(mv 50 0), (on 51 (.p (.fieldAddr 1 (.tmp 7)))), (on 52 (.r (.load false 1 (.tmp 51)))), (on 53 (.call (.const (.func 81 [] [])) [(.tmp 50), (.tmp 52), (ci D 4)]))])))) (.region [(on 54 (.p (.bin .add (.tmp 42) (ci D 1)))), (mv 42 54)])))))))))) (.region [(on 55 (.p (.bin .add (.tmp 32) (ci D 1)))), (mv 32 55)])))))))))⟩
theorem lf86_eq (D : Dom I S) : trFunc D (tyFn D) Tryz.f86 = some (lf86 D) := by kernel_rfl
noncomputable def lf87 (D : Dom I S) : LFunc I S := ⟨43, [.tmp 4], .seq (.region [
 (on 4 (.p (.move (.const .nils))))]) (.seq (.seq (.region [
 (mv 7 1), (on 8 (.p (.nilchk (.tmp 7)))), (on 9 (.p (.fieldAddr 3 (.tmp 8)))), (on 10 (.p (.fieldAddr 0 (.tmp 9)))), (on 11 (.r (.load false 1 (.tmp 10)))), (mv 12 1), (on 13 (.p (.nilchk (.tmp 12)))), (on 14 (.p (.fieldAddr 1 (.tmp 13)))), (on 15 (.r (.load false 1 (.tmp 14)))), (on 16 (.p (.bin .neq (.tmp 11) (.tmp 15))))]) (.cond (.tmp 16) (.seq (.region [
 (on 4 (.p (.move (.const .nils))))]) (.ret)) (.skip))) (.seq (.region [
 (mv 18 0), (on 19 (.p (.nilchk (.tmp 18)))), (on 20 (.p (.fieldAddr 2 (.tmp 19)))), (on 21 (.r (.load false 1 (.tmp 20)))), (mv 22 1), (on 23 (.p (.nilchk (.tmp 22)))), (on 24 (.p (.fieldAddr 3 (.tmp 23)))), (on 25 (.r (.load true 2 (.tmp 24)))), (mv 26 1), (on 27 (.p (.nilchk (.tmp 26)))), (on 28 (.p (.fieldAddr 5 (.tmp 27)))), (on 29 (.r (.load false 1 (.tmp 28)))), (mv 30 1), (on 31 (.p (.nilchk (.tmp 30)))), (on 32 (.p (.fieldAddr 14 (.tmp 31)))), (on 33 (.r (.load false 1 (.tmp 32)))), (on 34 (.call (.const (.func 161 [] [])) [(.tmp 21), (.tmp 25), (.tmp 29), (.tmp 33)])), (mv 17 34), (on 35 (.p (.extract 0 (.tmp 17)))), (on 36 (.p (.extract 1 (.tmp 17)))), (mv 5 35), (mv 6 36)]) (.seq (.seq (.region [
 (mv 37 6), (on 38 (.p (.bin .neq (.tmp 37) (ci D 0))))]) (.cond (.tmp 38) (.seq (.region [
 (on 4 (.p (.move (.const .nils))))]) (.ret)) (.skip))) (.seq (.region [
 (mv 39 0), (mv 40 1), (mv 41 5), (on 42 (.call (.const (.func 162 [] [])) [(.tmp 39), (.tmp 40), (ci D 1), (.tmp 41)])), (mv 4 42)]) (.ret)))))⟩
theorem lf87_eq (D : Dom I S) : trFunc D (tyFn D) Tryz.f87 = some (lf87 D) := by kernel_rfl
noncomputable def lf89 (D : Dom I S) : LFunc I S := ⟨38, [.tmp 4], .seq (.region [
 (on 4 (.p (.move (.const .nils))))]) (.seq (.seq (.region [
 (mv 7 1), (on 8 (.p (.nilchk (.tmp 7)))), (on 9 (.p (.fieldAddr 3 (.tmp 8)))), (on 10 (.p (.fieldAddr 0 (.tmp 9)))), (on 11 (.r (.load false 1 (.tmp 10)))), (mv 12 0), (on 13 (.p (.nilchk (.tmp 12)))), (on 14 (.p (.fieldAddr 0 (.tmp 13)))), (on 15 (.r (.load false 1 (.tmp 14)))), (on 16 (.p (.bin .eql (.tmp 11) (.tmp 15))))]) (.cond (.tmp 16) (.seq (.region [
 (on 4 (.p (.move (.const .nils))))]) (.ret)) (.skip))) (.seq (.seq (.region [
 (mv 18 0), (on 19 (.p (.nilchk (.tmp 18)))), (on 20 (.p (.fieldAddr 2 (.tmp 19)))), (on 21 (.r (.load false 1 (.tmp 20)))), (mv 22 1), (on 23 (.p (.nilchk (.tmp 22)))), (on 24 (.p (.fieldAddr 3 (.tmp 23)))), (on 25 (.r (.load true 2 (.tmp 24)))), (mv 26 1), (on 27 (.p (.nilchk (.tmp 26)))), (on 28 (.p (.fieldAddr 6 (.tmp 27)))), (on 29 (.r (.load false 1 (.tmp 28)))), (on 30 (.call (.const (.func 166 [] [])) [(.tmp 21), (.tmp 25), (.tmp 29)])), (mv 17 30), (on 31 (.p (.extract 0 (.tmp 17)))), (on 32 (.p (.extract 1 (.tmp 17)))), (mv 5 31), (mv 6 32)]) (.seq (.region [
 (mv 33 5), (on 34 (.p (.un .not (.tmp 33))))]) (.cond (.tmp 34) (.seq (.region [
 (on 4 (.p (.move (.const .nils))))]) (.ret)) (.skip)))) (.seq (.region [
 (mv 35 0), (mv 36 1), (on 37 (.call (.const (.func 162 [] [])) [(.tmp 35), (.tmp 36), (ci D 3), (.const (.bool false))])), (mv 4 37)]) (.ret))))⟩
theorem lf89_eq (D : Dom I S) : trFunc D (tyFn D) Tryz.f89 = some (lf89 D) := by kernel_rfl
noncomputable def lf92 (D : Dom I S) : LFunc I S := ⟨19, [.tmp 4], .seq (.region [
 (on 4 (.p (.move (ci D 0))))]) (.seq (.seq (.region [
 (mv 6 0), (on 7 (.p (.len (.tmp 6)))), (on 8 (.p (.move (ci D 0))))]) (.block 0 (.loop (.seq (.region [
 (on 9 (.p (.bin .lss (.tmp 8) (.tmp 7))))]) (.seq (.cond (.tmp 9) (.skip) (.exit 0)) (.seq (.block 1 (.seq (.region [
 (mv 10 8), (mv 5 10)]) (.seq (.region [
 (mv 11 1), (mv 12 0), (mv 13 5), (on 14 (.p (.idxSl 1 (.tmp 12) (.tmp 13)))), (on 15 (.r (.load false 1 (.tmp 14)))), (on 16 (.call (.tmp 11) [(.tmp 15)]))]) (.cond (.tmp 16) (.seq (.region [
 (mv 17 5), (mv 4 17)]) (.ret)) (.skip))))) (.region [(on 18 (.p (.bin .add (.tmp 8) (ci D 1)))), (mv 8 18)]))))))) (.seq (.region [
 (on 4 (.p (.move (.const (.int .i64 (D.ofInt (.negSucc 0)))))))]) (.ret)))⟩
theorem lf92_eq (D : Dom I S) : trFunc D (tyFn D) Tryz.f92 = some (lf92 D) := by kernel_rfl
noncomputable def lf94 (D : Dom I S) : LFunc I S := ⟨26, [.tmp 4, .tmp 5], .seq (.region [
 (on 3 (.a (.box (.tmp 1)))), (on 4 (.p (.move (.const (.bool false))))), (on 5 (.p (.move (.const (.bool false)))))]) (.seq (.seq (.region [
 (mv 8 0), (on 9 (.r (.eqRef .ptr false (.tmp 8) (.const .nilp))))]) (.cond (.tmp 9) (.seq (.region [
 (on 4 (.p (.move (.const (.bool false))))), (on 5 (.p (.move (.const (.bool false)))))]) (.ret)) (.skip))) (.seq (.seq (.region [
 (mv 10 0), (on 11 (.p (.nilchk (.tmp 10)))), (on 12 (.p (.fieldAddr 5 (.tmp 11)))), (on 13 (.r (.load false 1 (.tmp 12)))), (on 14 (.p (.len (.tmp 13)))), (on 15 (.p (.move (ci D 0))))]) (.block 0 (.loop (.seq (.region [
 (on 16 (.p (.bin .lss (.tmp 15) (.tmp 14))))]) (.seq (.cond (.tmp 16) (.skip) (.exit 0)) (.seq (.block 1 (.seq (.region [
 (on 17 (.p (.idxSl 3 (.tmp 13) (.tmp 15)))), (on 18 (.r (.load true 3 (.tmp 17)))), (on 7 (.a (.box (.const (.agg [(vi D 0), (vi D 0), (.bool false)]))))), ⟨⟨none, none, .e (.store 3 (.tmp 7) (.tmp 18))⟩, []⟩]) (.seq (.region [
 (on 19 (.p (.fieldAddr 0 (.tmp 7)))), (on 20 (.r (.load true 2 (.tmp 19)))), (on 21 (.r (.load true 2 (.tmp 3)))), (on 22 (.p (.eqAgg false 2 (.tmp 20) (.tmp 21))))]) (.cond (.tmp 22) (.seq (.region [
 (on 23 (.p (.fieldAddr 2 (.tmp 7)))), (on 24 (.r (.load false 1 (.tmp 23)))), (on 4 (.p (.move (.const (.bool true))))), (mv 5 24)]) (.ret)) (.skip))))) (.region [(on 25 (.p (.bin .add (.tmp 15) (ci D 1)))), (mv 15 25)]))))))) (.seq (.region [
 (on 4 (.p (.move (.const (.bool false))))), (on 5 (.p (.move (.const (.bool false)))))]) (.ret))))⟩
theorem lf94_eq (D : Dom I S) : trFunc D (tyFn D) Tryz.f94 = some (lf94 D) := by kernel_rfl
noncomputable def lf95 (D : Dom I S) : LFunc I S := ⟨18, [], .seq (.region [
 (on 5 (.a (.box (.tmp 2))))]) (.seq (.region [
 (mv 6 1), (on 7 (.p (.fieldAddr 0 (.tmp 5)))), ⟨⟨none, none, .e (.store 1 (.tmp 7) (.tmp 6))⟩, []⟩]) (.region [(mv 8 0), (mv 9 0), (on 10 (.p (.nilchk (.tmp 9)))), (on 11 (.p (.fieldAddr 7 (.tmp 10)))), (on 12 (.r (.load false 1 (.tmp 11)))), (on 13 (.r (.load true 3 (.tmp 5)))), (on 14 (.a (.bslice [(vi D 0), (vi D 0), .nils] 1 3 [(0, (.tmp 13))]))), (on 15 (.e (.append 3 40 (.tmp 12) (.tmp 14)))), (on 16 (.p (.nilchk (.tmp 8)))), (on 17 (.p (.fieldAddr 7 (.tmp 16)))), ⟨⟨none, none, .e (.store 1 (.tmp 17) (.tmp 15))⟩, []⟩]))⟩
theorem lf95_eq (D : Dom I S) : trFunc D (tyFn D) Tryz.f95 = some (lf95 D) := by kernel_rfl
noncomputable def lf96 (D : Dom I S) : LFunc I S := ⟨65, [.tmp 4], .seq (.region [
 (on 4 (.p (.move (.const (.bool false)))))]) (.seq (.seq (.region [
 (mv 6 1), (on 7 (.p (.len (.tmp 6)))), (on 8 (.p (.bin .gtr (.tmp 7) (ci D 16))))]) (.cond (.tmp 8) (.seq (.region [
 (on 4 (.p (.move (.const (.bool false)))))]) (.ret)) (.skip))) (.seq (.seq (.region [
 (on 5 (.p (.move (ci D 0))))]) (.block 0 (.loop (.seq (.seq (.region [
 (mv 9 5), (mv 10 1), (on 11 (.p (.len (.tmp 10)))), (on 12 (.p (.bin .lss (.tmp 9) (.tmp 11))))]) (.cond (.tmp 12) (.skip) (.exit 0))) (.seq (.block 1 (.seq (.region [
 (mv 15 1), (mv 16 5), (on 17 (.p (.idxSl 2 (.tmp 15) (.tmp 16)))), (on 18 (.r (.load true 2 (.tmp 17)))), (on 19 (.call (.const (.func 26 [] [])) [(.tmp 18)])), (on 20 (.p (.un .not (.tmp 19)))), (mv 21 20), ⟨⟨some 22, some (some 21, false), .p (.move (.tmp 5))⟩, []⟩,
 ⟨⟨some 23, some (some 21, false), .p (.bin .gtr (.tmp 22) (ci D 0))⟩, []⟩,
 ⟨⟨some 24, some (some 21, false), .p (.move (.tmp 23))⟩, []⟩,
 ⟨⟨some 25, some (some 24, true), .p (.move (.tmp 1))⟩, []⟩,
 ⟨⟨some 26, some (some 24, true), .p (.move (.tmp 5))⟩, []⟩,
 ⟨⟨some 27, some (some 24, true), .p (.idxSl 2 (.tmp 25) (.tmp 26))⟩, []⟩,
 ⟨⟨some 28, some (some 24, true), .r (.load true 2 (.tmp 27))⟩, []⟩,
 ⟨⟨some 29, some (some 24, true), .p (.move (.tmp 1))⟩, []⟩,
 ⟨⟨some 30, some (some 24, true), .p (.move (.tmp 5))⟩, []⟩,
 ⟨⟨some 31, some (some 24, true), .p (.bin .sub (.tmp 30) (ci D 1))⟩, []⟩,
 ⟨⟨some 32, some (some 24, true), .p (.idxSl 2 (.tmp 29) (.tmp 31))⟩, []⟩,
 ⟨⟨some 33, some (some 24, true), .r (.load true 2 (.tmp 32))⟩, []⟩,
 ⟨⟨some 34, some (some 24, true), .p (.eqAgg false 2 (.tmp 28) (.tmp 33))⟩, []⟩,
 ⟨⟨some 35, some (some 21, false), .p (.pick (.tmp 24) (.tmp 34) (.const (.bool false)))⟩, []⟩, (on 36 (.p (.pick (.tmp 21) (.const (.bool true)) (.tmp 35))))]) (.cond (.tmp 36) (.seq (.region [
 (on 4 (.p (.move (.const (.bool false)))))]) (.ret)) (.skip)))) (.region [(mv 13 5), (on 14 (.p (.bin .add (.tmp 13) (ci D 1)))), (mv 5 14)])))))) (.seq (.seq (.region [
 (mv 37 0)]) (.block 2 (.seq (.region [
 (on 39 (.p (.bin .eql (.tmp 37) (ci D 0)))), (mv 38 39)]) (.cond (.tmp 38) (.seq (.region [
 (mv 40 1), (on 41 (.p (.len (.tmp 40)))), (on 42 (.p (.bin .eql (.tmp 41) (ci D 1)))), (mv 4 42)]) (.ret)) (.seq (.region [
 (on 44 (.p (.bin .eql (.tmp 37) (ci D 1)))), (mv 43 44)]) (.cond (.tmp 43) (.seq (.region [
 (mv 45 1), (on 46 (.p (.len (.tmp 45)))), (on 47 (.p (.bin .geq (.tmp 46) (ci D 2)))), (mv 4 47)]) (.ret)) (.seq (.region [
 (on 49 (.p (.bin .eql (.tmp 37) (ci D 2)))), (mv 48 49)]) (.cond (.tmp 48) (.seq (.region [
 (mv 50 1), (on 51 (.p (.len (.tmp 50)))), (on 52 (.p (.bin .geq (.tmp 51) (ci D 3)))), (mv 53 52), ⟨⟨some 54, some (some 53, true), .p (.move (.tmp 1))⟩, []⟩,
 ⟨⟨some 55, some (some 53, true), .p (.idxSl 2 (.tmp 54) (ci D 0))⟩, []⟩,
 ⟨⟨some 56, some (some 53, true), .r (.load true 2 (.tmp 55))⟩, []⟩,
 ⟨⟨some 57, some (some 53, true), .p (.move (.tmp 1))⟩, []⟩,
 ⟨⟨some 58, some (some 53, true), .p (.move (.tmp 1))⟩, []⟩,
 ⟨⟨some 59, some (some 53, true), .p (.len (.tmp 58))⟩, []⟩,
 ⟨⟨some 60, some (some 53, true), .p (.bin .sub (.tmp 59) (ci D 1))⟩, []⟩,
 ⟨⟨some 61, some (some 53, true), .p (.idxSl 2 (.tmp 57) (.tmp 60))⟩, []⟩,
 ⟨⟨some 62, some (some 53, true), .r (.load true 2 (.tmp 61))⟩, []⟩,
 ⟨⟨some 63, some (some 53, true), .p (.eqAgg true 2 (.tmp 56) (.tmp 62))⟩, []⟩, (on 64 (.p (.pick (.tmp 53) (.tmp 63) (.const (.bool false))))), (mv 4 64)]) (.ret)) (.skip))))))))) (.seq (.region [
 (on 4 (.p (.move (.const (.bool false)))))]) (.ret)))))⟩
theorem lf96_eq (D : Dom I S) : trFunc D (tyFn D) Tryz.f96 = some (lf96 D) := by kernel_rfl
noncomputable def lf97 (D : Dom I S) : LFunc I S := ⟨19, [.tmp 6], .seq (.region [
 (on 3 (.a (.box (.tmp 0)))), (on 4 (.a (.box (.tmp 1)))), (on 5 (.a (.box (.tmp 2)))), (on 6 (.p (.move (.const (.bool false)))))]) (.seq (.region [
 (on 7 (.r (.load true 2 (.tmp 4)))), (on 8 (.r (.load true 2 (.tmp 5)))), (on 9 (.r (.load true 2 (.tmp 3)))), (on 10 (.call (.const (.func 98 [] [])) [(.tmp 7), (.tmp 8), (.tmp 9)])), (on 11 (.p (.bin .eql (.tmp 10) (ci D 0)))), (mv 12 11), ⟨⟨some 13, some (some 12, true), .r (.load true 2 (.tmp 3))⟩, []⟩,
 ⟨⟨some 14, some (some 12, true), .r (.load true 2 (.tmp 4))⟩, []⟩,
 ⟨⟨some 15, some (some 12, true), .r (.load true 2 (.tmp 5))⟩, []⟩,
 ⟨⟨some 16, some (some 12, true), .call (.const (.func 171 [] [])) [(.tmp 14), (.tmp 15)]⟩, [⟨some 13, some (some 12, true), .r (.load true 2 (.tmp 3))⟩]⟩, ⟨⟨some 17, some (some 12, true), .call (.const (.func 33 [] [])) [(.tmp 13), (.tmp 16)]⟩, []⟩, (on 18 (.p (.pick (.tmp 12) (.tmp 17) (.const (.bool false))))), (mv 6 18)]) (.ret))⟩
theorem lf97_eq (D : Dom I S) : trFunc D (tyFn D) Tryz.f97 = some (lf97 D) := by kernel_rfl
noncomputable def lf98 (D : Dom I S) : LFunc I S := ⟨57, [.tmp 6], .seq (.region [
 (on 3 (.a (.box (.tmp 0)))), (on 4 (.a (.box (.tmp 1)))), (on 5 (.a (.box (.tmp 2)))), (on 6 (.p (.move (ci D 0))))]) (.seq (.region [
 (on 12 (.p (.fieldAddr 0 (.tmp 4)))), (on 13 (.r (.load false 1 (.tmp 12)))), (on 14 (.p (.fieldAddr 0 (.tmp 3)))), (on 15 (.r (.load false 1 (.tmp 14)))), (on 16 (.p (.bin .sub (.tmp 13) (.tmp 15)))), (on 17 (.p (.fieldAddr 1 (.tmp 5)))), (on 18 (.r (.load false 1 (.tmp 17)))), (on 19 (.p (.fieldAddr 1 (.tmp 3)))), (on 20 (.r (.load false 1 (.tmp 19)))), (on 21 (.p (.bin .sub (.tmp 18) (.tmp 20)))), (on 22 (.call (.const (.func 172 [] [])) [(.tmp 16), (.tmp 21)])), (mv 11 22), (on 23 (.p (.extract 0 (.tmp 11)))), (on 24 (.p (.extract 1 (.tmp 11)))), (on 8 (.a (.box (.const (.agg [(.int .u64 (D.ofInt (.ofNat 0))), (.int .u64 (D.ofInt (.ofNat 0)))]))))), (mv 7 23), ⟨⟨none, none, .e (.store 2 (.tmp 8) (.tmp 24))⟩, []⟩]) (.seq (.region [
 (on 26 (.p (.fieldAddr 1 (.tmp 4)))), (on 27 (.r (.load false 1 (.tmp 26)))), (on 28 (.p (.fieldAddr 1 (.tmp 3)))), (on 29 (.r (.load false 1 (.tmp 28)))), (on 30 (.p (.bin .sub (.tmp 27) (.tmp 29)))), (on 31 (.p (.fieldAddr 0 (.tmp 5)))), (on 32 (.r (.load false 1 (.tmp 31)))), (on 33 (.p (.fieldAddr 0 (.tmp 3)))), (on 34 (.r (.load false 1 (.tmp 33)))), (on 35 (.p (.bin .sub (.tmp 32) (.tmp 34)))), (on 36 (.call (.const (.func 172 [] [])) [(.tmp 30), (.tmp 35)])), (mv 25 36), (on 37 (.p (.extract 0 (.tmp 25)))), (on 38 (.p (.extract 1 (.tmp 25)))), (on 10 (.a (.box (.const (.agg [(.int .u64 (D.ofInt (.ofNat 0))), (.int .u64 (D.ofInt (.ofNat 0)))]))))), (mv 9 37), ⟨⟨none, none, .e (.store 2 (.tmp 10) (.tmp 38))⟩, []⟩]) (.seq (.block 0 (.seq (.region [
 (mv 40 7), (mv 41 9), (on 42 (.p (.bin .neq (.tmp 40) (.tmp 41)))), (mv 43 42), ⟨⟨some 44, some (some 43, true), .p (.move (.tmp 7))⟩, []⟩,
 ⟨⟨some 45, some (some 43, true), .p (.move (.tmp 9))⟩, []⟩,
 ⟨⟨some 46, some (some 43, true), .p (.bin .gtr (.tmp 44) (.tmp 45))⟩, []⟩, (on 47 (.p (.pick (.tmp 43) (.tmp 46) (.const (.bool false))))), (mv 39 47)]) (.cond (.tmp 39) (.seq (.region [
 (on 6 (.p (.move (ci D 1))))]) (.ret)) (.seq (.region [
 (mv 49 7), (mv 50 9), (on 51 (.p (.bin .neq (.tmp 49) (.tmp 50)))), (mv 48 51)]) (.cond (.tmp 48) (.seq (.region [
 (on 6 (.p (.move (.const (.int .i64 (D.ofInt (.negSucc 0)))))))]) (.ret)) (.skip)))))) (.seq (.region [
 (mv 52 7), (on 53 (.r (.load true 2 (.tmp 8)))), (on 54 (.r (.load true 2 (.tmp 10)))), (on 55 (.call (.const (.func 173 [] [])) [(.tmp 53), (.tmp 54)])), (on 56 (.p (.bin .mul (.tmp 52) (.tmp 55)))), (mv 6 56)]) (.ret)))))⟩
theorem lf98_eq (D : Dom I S) : trFunc D (tyFn D) Tryz.f98 = some (lf98 D) := by kernel_rfl
noncomputable def lf100 (D : Dom I S) : LFunc I S := ⟨69, [.tmp 4], .seq (.region [
 (on 4 (.p (.move (.const (.bool false)))))]) (.seq (.seq (.region [
 (mv 6 0), (on 7 (.p (.len (.tmp 6)))), (mv 8 1), (on 9 (.p (.len (.tmp 8)))), (on 10 (.p (.bin .neq (.tmp 7) (.tmp 9))))]) (.cond (.tmp 10) (.seq (.region [
 (on 4 (.p (.move (.const (.bool false)))))]) (.ret)) (.skip))) (.seq (.seq (.region [
 (on 5 (.p (.move (ci D 0))))]) (.block 0 (.loop (.seq (.seq (.region [
 (mv 11 5), (mv 12 0), (on 13 (.p (.len (.tmp 12)))), (on 14 (.p (.bin .lss (.tmp 11) (.tmp 13))))]) (.cond (.tmp 14) (.skip) (.exit 0))) (.seq (.block 1 (.seq (.region [
 (mv 17 0), (mv 18 5), (on 19 (.p (.idxSl 8 (.tmp 17) (.tmp 18)))), (on 20 (.p (.fieldAddr 0 (.tmp 19)))), (on 21 (.r (.load false 1 (.tmp 20)))), (mv 22 1), (mv 23 5), (on 24 (.p (.idxSl 8 (.tmp 22) (.tmp 23)))), (on 25 (.p (.fieldAddr 0 (.tmp 24)))), (on 26 (.r (.load false 1 (.tmp 25)))), (on 27 (.p (.bin .neq (.tmp 21) (.tmp 26)))), (mv 28 27), ⟨⟨some 29, some (some 28, false), .p (.move (.tmp 0))⟩, []⟩,
 ⟨⟨some 30, some (some 28, false), .p (.move (.tmp 5))⟩, []⟩,
 ⟨⟨some 31, some (some 28, false), .p (.idxSl 8 (.tmp 29) (.tmp 30))⟩, []⟩,
 ⟨⟨some 32, some (some 28, false), .p (.fieldAddr 4 (.tmp 31))⟩, []⟩,
 ⟨⟨some 33, some (some 28, false), .r (.load false 1 (.tmp 32))⟩, []⟩,
 ⟨⟨some 34, some (some 28, false), .p (.move (.tmp 1))⟩, []⟩,
 ⟨⟨some 35, some (some 28, false), .p (.move (.tmp 5))⟩, []⟩,
 ⟨⟨some 36, some (some 28, false), .p (.idxSl 8 (.tmp 34) (.tmp 35))⟩, []⟩,
 ⟨⟨some 37, some (some 28, false), .p (.fieldAddr 4 (.tmp 36))⟩, []⟩,
 ⟨⟨some 38, some (some 28, false), .r (.load false 1 (.tmp 37))⟩, []⟩,
 ⟨⟨some 39, some (some 28, false), .p (.bin .neq (.tmp 33) (.tmp 38))⟩, []⟩, (on 40 (.p (.pick (.tmp 28) (.const (.bool true)) (.tmp 39)))), (mv 41 40), ⟨⟨some 42, some (some 41, false), .p (.move (.tmp 0))⟩, []⟩,
 ⟨⟨some 43, some (some 41, false), .p (.move (.tmp 5))⟩, []⟩,
 ⟨⟨some 44, some (some 41, false), .p (.idxSl 8 (.tmp 42) (.tmp 43))⟩, []⟩,
 ⟨⟨some 45, some (some 41, false), .p (.fieldAddr 1 (.tmp 44))⟩, []⟩,
 ⟨⟨some 46, some (some 41, false), .r (.load true 3 (.tmp 45))⟩, []⟩,
 ⟨⟨some 47, some (some 41, false), .p (.move (.tmp 1))⟩, []⟩,
 ⟨⟨some 48, some (some 41, false), .p (.move (.tmp 5))⟩, []⟩,
 ⟨⟨some 49, some (some 41, false), .p (.idxSl 8 (.tmp 47) (.tmp 48))⟩, []⟩,
 ⟨⟨some 50, some (some 41, false), .p (.fieldAddr 1 (.tmp 49))⟩, []⟩,
 ⟨⟨some 51, some (some 41, false), .r (.load true 3 (.tmp 50))⟩, []⟩,
 ⟨⟨some 52, some (some 41, false), .call (.const (.func 49 [] [])) [(.tmp 46), (.tmp 51)]⟩, []⟩,
 ⟨⟨some 53, some (some 41, false), .p (.un .not (.tmp 52))⟩, []⟩, (on 54 (.p (.pick (.tmp 41) (.const (.bool true)) (.tmp 53)))), (mv 55 54), ⟨⟨some 56, some (some 55, false), .p (.move (.tmp 0))⟩, []⟩,
 ⟨⟨some 57, some (some 55, false), .p (.move (.tmp 5))⟩, []⟩,
 ⟨⟨some 58, some (some 55, false), .p (.idxSl 8 (.tmp 56) (.tmp 57))⟩, []⟩,
 ⟨⟨some 59, some (some 55, false), .p (.fieldAddr 5 (.tmp 58))⟩, []⟩,
 ⟨⟨some 60, some (some 55, false), .r (.load true 3 (.tmp 59))⟩, []⟩,
 ⟨⟨some 61, some (some 55, false), .p (.move (.tmp 1))⟩, []⟩,
 ⟨⟨some 62, some (some 55, false), .p (.move (.tmp 5))⟩, []⟩,
 ⟨⟨some 63, some (some 55, false), .p (.idxSl 8 (.tmp 61) (.tmp 62))⟩, []⟩,
 ⟨⟨some 64, some (some 55, false), .p (.fieldAddr 5 (.tmp 63))⟩, []⟩,
 ⟨⟨some 65, some (some 55, false), .r (.load true 3 (.tmp 64))⟩, []⟩,
 ⟨⟨some 66, some (some 55, false), .call (.const (.func 174 [] [])) [(.tmp 60), (.tmp 65)]⟩, []⟩,
 ⟨⟨some 67, some (some 55, false), .p (.un .not (.tmp 66))⟩, []⟩, (on 68 (.p (.pick (.tmp 55) (.const (.bool true)) (.tmp 67))))]) (.cond (.tmp 68) (.seq (.region [
 (on 4 (.p (.move (.const (.bool false)))))]) (.ret)) (.skip)))) (.region [(mv 15 5), (on 16 (.p (.bin .add (.tmp 15) (ci D 1)))), (mv 5 16)])))))) (.seq (.region [
 (on 4 (.p (.move (.const (.bool true)))))]) (.ret))))⟩
theorem lf100_eq (D : Dom I S) : trFunc D (tyFn D) Tryz.f100 = some (lf100 D) := by kernel_rfl
noncomputable def lf101 (D : Dom I S) : LFunc I S := ⟨28, [.tmp 2], .seq (.region [
 (on 1 (.a (.box (.tmp 0)))), (on 2 (.p (.move (.const (.bool false)))))]) (.seq (.seq (.region [
 (on 3 (.p (.fieldAddr 0 (.tmp 1)))), (on 4 (.r (.load false 1 (.tmp 3))))]) (.block 0 (.seq (.region [
 (on 6 (.p (.bin .eql (.tmp 4) (ci D 1)))), (mv 5 6)]) (.cond (.tmp 5) (.seq (.region [
 (on 7 (.p (.fieldAddr 2 (.tmp 1)))), (on 8 (.r (.load true 4 (.tmp 7)))), (on 9 (.call (.const (.func 175 [] [])) [(.tmp 8)])), (mv 2 9)]) (.ret)) (.seq (.region [
 (on 11 (.p (.bin .eql (.tmp 4) (ci D 2)))), (mv 10 11)]) (.cond (.tmp 10) (.seq (.region [
 (on 12 (.p (.fieldAddr 6 (.tmp 1)))), (on 13 (.r (.load true 2 (.tmp 12)))), (on 14 (.call (.const (.func 176 [] [])) [(.tmp 13)])), (mv 15 14), ⟨⟨some 16, some (some 15, true), .p (.fieldAddr 8 (.tmp 1))⟩, []⟩,
 ⟨⟨some 17, some (some 15, true), .r (.load false 1 (.tmp 16))⟩, []⟩,
 ⟨⟨some 18, some (some 15, true), .p (.bin .geq (.tmp 17) (ci D 0))⟩, []⟩, (on 19 (.p (.pick (.tmp 15) (.tmp 18) (.const (.bool false))))), (mv 20 19), ⟨⟨some 21, some (some 20, true), .p (.fieldAddr 8 (.tmp 1))⟩, []⟩,
 ⟨⟨some 22, some (some 20, true), .r (.load false 1 (.tmp 21))⟩, []⟩,
 ⟨⟨some 23, some (some 20, true), .p (.bin .leq (.tmp 22) (ci D 256))⟩, []⟩, (on 24 (.p (.pick (.tmp 20) (.tmp 23) (.const (.bool false))))), (mv 2 24)]) (.ret)) (.skip))))))) (.seq (.region [
 (on 25 (.p (.fieldAddr 0 (.tmp 1)))), (on 26 (.r (.load false 1 (.tmp 25)))), (on 27 (.p (.bin .eql (.tmp 26) (ci D 3)))), (mv 2 27)]) (.ret)))⟩
theorem lf101_eq (D : Dom I S) : trFunc D (tyFn D) Tryz.f101 = some (lf101 D) := by kernel_rfl
noncomputable def lf104 (D : Dom I S) : LFunc I S := ⟨114, [.cell 6 true 2, .tmp 7, .tmp 8], .seq (.region [
 (on 6 (.a (.box (.const (.agg [(vi D 0), (vi D 0)]))))), (on 7 (.p (.move (.const .nils)))), (on 8 (.p (.move (ci D 0))))]) (.seq (.block 0 (.seq (.region [
 (mv 13 0), (on 14 (.r (.eqRef .ptr false (.tmp 13) (.const .nilp)))), (mv 12 14)]) (.cond (.tmp 12) (.seq (.region [
 (on 15 (.p (.build [(vi D 0), (vi D 0)] []))), ⟨⟨none, none, .e (.store 2 (.tmp 6) (.tmp 15))⟩, []⟩, (on 7 (.p (.move (.const .nils)))), (on 8 (.p (.move (ci D 1))))]) (.ret)) (.seq (.region [
 (mv 17 1), (on 18 (.call (.const (.func 177 [] [])) [(.tmp 17)])), (on 19 (.p (.un .not (.tmp 18)))), (mv 20 19), ⟨⟨some 21, some (some 20, false), .p (.move (.tmp 2))⟩, []⟩,
 ⟨⟨some 22, some (some 20, false), .p (.move (.tmp 0))⟩, []⟩,
 ⟨⟨some 23, some (some 20, false), .p (.nilchk (.tmp 22))⟩, []⟩,
 ⟨⟨some 24, some (some 20, false), .p (.fieldAddr 1 (.tmp 23))⟩, []⟩,
 ⟨⟨some 25, some (some 20, false), .r (.load false 1 (.tmp 24))⟩, []⟩,
 ⟨⟨some 26, some (some 20, false), .call (.const (.func 71 [] [])) [(.tmp 21), (.tmp 25)]⟩, []⟩,
 ⟨⟨some 27, some (some 20, false), .p (.un .not (.tmp 26))⟩, []⟩, (on 28 (.p (.pick (.tmp 20) (.const (.bool true)) (.tmp 27)))), (mv 29 28), ⟨⟨some 30, some (some 29, false), .p (.move (.tmp 0))⟩, []⟩,
 ⟨⟨some 31, some (some 29, false), .p (.nilchk (.tmp 30))⟩, []⟩,
 ⟨⟨some 32, some (some 29, false), .p (.fieldAddr 4 (.tmp 31))⟩, []⟩,
 ⟨⟨some 33, some (some 29, false), .r (.load false 1 (.tmp 32))⟩, []⟩,
 ⟨⟨some 34, some (some 29, false), .p (.bin .eql (.tmp 33) (ci D 65535))⟩, []⟩, (on 35 (.p (.pick (.tmp 29) (.const (.bool true)) (.tmp 34)))), (mv 16 35)]) (.cond (.tmp 16) (.seq (.region [
 (on 36 (.p (.build [(vi D 0), (vi D 0)] []))), ⟨⟨none, none, .e (.store 2 (.tmp 6) (.tmp 36))⟩, []⟩, (on 7 (.p (.move (.const .nils)))), (on 8 (.p (.move (ci D 2000))))]) (.ret)) (.skip)))))) (.seq (.region [
 (mv 37 0), (on 38 (.p (.nilchk (.tmp 37)))), (on 39 (.p (.fieldAddr 0 (.tmp 38)))), (on 40 (.r (.load false 1 (.tmp 39)))), (mv 41 0), (on 42 (.p (.nilchk (.tmp 41)))), (on 43 (.p (.fieldAddr 4 (.tmp 42)))), (on 44 (.r (.load false 1 (.tmp 43)))), (on 45 (.p (.bin .add (.tmp 44) (ci D 1)))), (on 46 (.p (.build [(vi D 0), (vi D 0)] [(0, 1, (.tmp 40)), (1, 1, (.tmp 45))]))), (mv 47 1), (mv 48 2), (mv 50 0), (on 51 (.p (.nilchk (.tmp 50)))), (on 52 (.p (.fieldAddr 0 (.tmp 51)))), (on 53 (.r (.load false 1 (.tmp 52)))), (on 54 (.p (.bin .shl (.const (.int .u64 (D.ofInt (.ofNat 1)))) (.tmp 53)))), ⟨⟨some 49, none, .call (.const (.func 143 [] [])) [(.tmp 48)]⟩, [⟨some 53, none, .r (.load false 1 (.tmp 52))⟩, ⟨some 44, none, .r (.load false 1 (.tmp 43))⟩, ⟨some 40, none, .r (.load false 1 (.tmp 39))⟩]⟩, (on 55 (.p (.build [(vi D 0), (vi D 0), (vi D 0), .nils, (.int .u64 (D.ofInt (.ofNat 0))), (vi D 0)] [(0, 2, (.tmp 46)), (2, 1, (.tmp 47)), (3, 1, (.tmp 49)), (4, 1, (.tmp 54))]))), (on 56 (.a (.box (.tmp 55)))), (mv 9 56)]) (.seq (.seq (.region [
 (mv 57 0), (mv 58 9), (on 59 (.call (.const (.func 178 [] [])) [(.tmp 57), (.tmp 58)])), (on 60 (.p (.un .not (.tmp 59))))]) (.cond (.tmp 60) (.seq (.region [
 (on 61 (.p (.build [(vi D 0), (vi D 0)] []))), ⟨⟨none, none, .e (.store 2 (.tmp 6) (.tmp 61))⟩, []⟩, (on 7 (.p (.move (.const .nils)))), (on 8 (.p (.move (ci D 1001))))]) (.ret)) (.skip))) (.seq (.region [
 (mv 62 0), (on 63 (.p (.nilchk (.tmp 62)))), (on 64 (.p (.fieldAddr 4 (.tmp 63)))), (on 65 (.r (.load false 1 (.tmp 64)))), (on 66 (.p (.bin .add (.tmp 65) (ci D 1)))), (on 67 (.p (.nilchk (.tmp 62)))), (on 68 (.p (.fieldAddr 4 (.tmp 67)))), ⟨⟨none, none, .e (.store 1 (.tmp 68) (.tmp 66))⟩, []⟩]) (.seq (.region [
 (mv 69 0), (mv 70 0), (on 71 (.p (.nilchk (.tmp 70)))), (on 72 (.p (.fieldAddr 5 (.tmp 71)))), (on 73 (.r (.load false 1 (.tmp 72)))), (mv 74 9), (on 75 (.a (.bslice [.nilp] 1 1 [(0, (.tmp 74))]))), (on 76 (.e (.append 1 8 (.tmp 73) (.tmp 75)))), (on 77 (.p (.nilchk (.tmp 69)))), (on 78 (.p (.fieldAddr 5 (.tmp 77)))), ⟨⟨none, none, .e (.store 1 (.tmp 78) (.tmp 76))⟩, []⟩]) (.seq (.region [
 (mv 80 0), (on 81 (.p (.nilchk (.tmp 80)))), (on 82 (.p (.fieldAddr 2 (.tmp 81)))), (on 83 (.r (.load false 1 (.tmp 82)))), (mv 84 9), (on 85 (.p (.nilchk (.tmp 84)))), (on 86 (.p (.fieldAddr 0 (.tmp 85)))), (on 87 (.r (.load true 2 (.tmp 86)))), (mv 88 1), (mv 89 2), (on 90 (.call (.const (.func 161 [] [])) [(.tmp 83), (.tmp 87), (.tmp 88), (.tmp 89)])), (mv 79 90), (on 91 (.p (.extract 0 (.tmp 79)))), (on 92 (.p (.extract 1 (.tmp 79)))), (mv 10 91), (mv 11 92)]) (.seq (.seq (.region [
 (mv 93 10), (on 94 (.p (.un .not (.tmp 93)))), (mv 95 94), ⟨⟨some 96, some (some 95, false), .p (.move (.tmp 0))⟩, []⟩,
 ⟨⟨some 97, some (some 95, false), .call (.const (.func 78 [] [])) [(.tmp 96)]⟩, []⟩, (on 98 (.p (.pick (.tmp 95) (.const (.bool true)) (.tmp 97))))]) (.cond (.tmp 98) (.seq (.region [
 (mv 99 9), (on 100 (.p (.nilchk (.tmp 99)))), (on 101 (.p (.fieldAddr 0 (.tmp 100)))), (on 102 (.r (.load true 2 (.tmp 101)))), (mv 103 0), (mv 104 9), (mv 105 10), ⟨⟨some 106, none, .call (.const (.func 76 [] [])) [(.tmp 103), (.tmp 104), (.tmp 105)]⟩, [⟨some 102, none, .r (.load true 2 (.tmp 101))⟩]⟩, ⟨⟨none, none, .e (.store 2 (.tmp 6) (.tmp 102))⟩, []⟩, (mv 7 106), (on 8 (.p (.move (ci D 0))))]) (.ret)) (.skip))) (.seq (.region [
 (mv 107 9), (on 108 (.p (.nilchk (.tmp 107)))), (on 109 (.p (.fieldAddr 0 (.tmp 108)))), (on 110 (.r (.load true 2 (.tmp 109)))), (mv 111 0), (mv 112 9), ⟨⟨some 113, none, .call (.const (.func 179 [] [])) [(.tmp 111), (.tmp 112)]⟩, [⟨some 110, none, .r (.load true 2 (.tmp 109))⟩]⟩, ⟨⟨none, none, .e (.store 2 (.tmp 6) (.tmp 110))⟩, []⟩, (mv 7 113), (on 8 (.p (.move (ci D 0))))]) (.ret)))))))))⟩
theorem lf104_eq (D : Dom I S) : trFunc D (tyFn D) Tryz.f104 = some (lf104 D) := by kernel_rfl
noncomputable def lf106 (D : Dom I S) : LFunc I S := ⟨98, [.cell 4 true 3, .tmp 5, .tmp 6], .seq (.region [
 (on 3 (.a (.box (.tmp 1)))), (on 4 (.a (.box (.const (.agg [(vi D 0), (vi D 0), .nils]))))), (on 5 (.p (.move (.const (.bool false))))), (on 6 (.p (.move (ci D 0))))]) (.seq (.seq (.region [
 (mv 11 0), (on 12 (.r (.eqRef .ptr false (.tmp 11) (.const .nilp))))]) (.cond (.tmp 12) (.seq (.region [
 (on 13 (.p (.build [(vi D 0), (vi D 0), .nils] []))), ⟨⟨none, none, .e (.store 3 (.tmp 4) (.tmp 13))⟩, []⟩, (on 5 (.p (.move (.const (.bool false))))), (on 6 (.p (.move (ci D 1))))]) (.ret)) (.skip))) (.seq (.seq (.region [
 (on 15 (.r (.load true 16 (.tmp 3)))), (on 16 (.call (.const (.func 27 [] [])) [(.tmp 15)])), (mv 14 16), (on 17 (.p (.extract 0 (.tmp 14)))), (on 18 (.p (.extract 1 (.tmp 14)))), (mv 7 17), (mv 8 18)]) (.seq (.region [
 (mv 19 8), (on 20 (.p (.bin .neq (.tmp 19) (ci D 0)))), (mv 21 20), ⟨⟨some 22, some (some 21, false), .p (.fieldAddr 0 (.tmp 3))⟩, []⟩,
 ⟨⟨some 23, some (some 21, false), .r (.load false 1 (.tmp 22))⟩, []⟩,
 ⟨⟨some 24, some (some 21, false), .p (.bin .neq (.tmp 23) (ci D 6))⟩, []⟩, (on 25 (.p (.pick (.tmp 21) (.const (.bool true)) (.tmp 24)))), (mv 26 25), ⟨⟨some 27, some (some 26, false), .p (.fieldAddr 10 (.tmp 3))⟩, []⟩,
 ⟨⟨some 28, some (some 26, false), .r (.load true 4 (.tmp 27))⟩, []⟩,
 ⟨⟨some 29, some (some 26, false), .p (.move (.tmp 0))⟩, []⟩,
 ⟨⟨some 30, some (some 26, false), .p (.nilchk (.tmp 29))⟩, []⟩,
 ⟨⟨some 31, some (some 26, false), .p (.fieldAddr 12 (.tmp 30))⟩, []⟩,
 ⟨⟨some 32, some (some 26, false), .r (.load true 4 (.tmp 31))⟩, []⟩,
 ⟨⟨some 33, some (some 26, false), .p (.eqAgg true 4 (.tmp 28) (.tmp 32))⟩, []⟩, (on 34 (.p (.pick (.tmp 26) (.const (.bool true)) (.tmp 33)))), (mv 35 34), ⟨⟨some 36, some (some 35, false), .p (.fieldAddr 1 (.tmp 3))⟩, []⟩,
 ⟨⟨some 37, some (some 35, false), .r (.load false 1 (.tmp 36))⟩, []⟩,
 ⟨⟨some 38, some (some 35, false), .p (.move (.tmp 0))⟩, []⟩,
 ⟨⟨some 39, some (some 35, false), .p (.nilchk (.tmp 38))⟩, []⟩,
 ⟨⟨some 40, some (some 35, false), .p (.fieldAddr 16 (.tmp 39))⟩, []⟩,
 ⟨⟨some 41, some (some 35, false), .r (.load false 1 (.tmp 40))⟩, []⟩,
 ⟨⟨some 42, some (some 35, false), .p (.bin .geq (.tmp 37) (.tmp 41))⟩, []⟩, (on 43 (.p (.pick (.tmp 35) (.const (.bool true)) (.tmp 42)))), (mv 44 43), ⟨⟨some 45, some (some 44, false), .p (.move (.tmp 0))⟩, []⟩,
 ⟨⟨some 46, some (some 44, false), .p (.nilchk (.tmp 45))⟩, []⟩,
 ⟨⟨some 47, some (some 44, false), .p (.fieldAddr 20 (.tmp 46))⟩, []⟩,
 ⟨⟨some 48, some (some 44, false), .r (.load false 1 (.tmp 47))⟩, []⟩, (on 49 (.p (.pick (.tmp 44) (.const (.bool true)) (.tmp 48))))]) (.cond (.tmp 49) (.seq (.region [
 (on 50 (.p (.build [(vi D 0), (vi D 0), .nils] []))), ⟨⟨none, none, .e (.store 3 (.tmp 4) (.tmp 50))⟩, []⟩, (on 5 (.p (.move (.const (.bool false))))), (on 6 (.p (.move (ci D 1800))))]) (.ret)) (.skip)))) (.seq (.seq (.region [
 (mv 52 0), (on 53 (.p (.nilchk (.tmp 52)))), (on 54 (.p (.fieldAddr 17 (.tmp 53)))), (on 55 (.r (.load false 1 (.tmp 54)))), (on 56 (.p (.fieldAddr 1 (.tmp 3)))), (on 57 (.r (.load false 1 (.tmp 56)))), (on 58 (.r (.lookup 0 (.agg [(vi D 0), (vi D 0), (vi D 0), (vi D 0), (vi D 0), (vi D 0), (.bool false), (vi D 0), (vi D 0), (.bool false), (vi D 0), (vi D 0), (vi D 0), (vi D 0), .nils, .nils]) true (.tmp 55) (.tmp 57)))), (mv 51 58), (on 59 (.p (.extract 0 (.tmp 51)))), (on 60 (.p (.extract 1 (.tmp 51)))), (on 9 (.a (.box (.const (.agg [(vi D 0), (vi D 0), (vi D 0), (vi D 0), (vi D 0), (vi D 0), (.bool false), (vi D 0), (vi D 0), (.bool false), (vi D 0), (vi D 0), (vi D 0), (vi D 0), .nils, .nils]))))), ⟨⟨none, none, .e (.store 16 (.tmp 9) (.tmp 59))⟩, []⟩, (mv 10 60)]) (.seq (.region [
 (mv 61 10), (on 62 (.p (.un .not (.tmp 61))))]) (.cond (.tmp 62) (.seq (.region [
 (mv 63 0), (on 64 (.p (.nilchk (.tmp 63)))), (on 65 (.p (.fieldAddr 17 (.tmp 64)))), (on 66 (.r (.load false 1 (.tmp 65)))), (on 67 (.p (.fieldAddr 1 (.tmp 3)))), (on 68 (.r (.load false 1 (.tmp 67)))), (on 69 (.r (.load true 16 (.tmp 3)))), ⟨⟨some 70, none, .call (.const (.func 180 [] [])) [(.tmp 69)]⟩, [⟨some 68, none, .r (.load false 1 (.tmp 67))⟩, ⟨some 66, none, .r (.load false 1 (.tmp 65))⟩]⟩, ⟨⟨none, none, .e (.mapset 0 (.tmp 66) (.tmp 68) (.tmp 70))⟩, []⟩]) (.region [(mv 71 0), (mv 72 0), (on 73 (.p (.nilchk (.tmp 72)))), (on 74 (.p (.fieldAddr 18 (.tmp 73)))), (on 75 (.r (.load false 1 (.tmp 74)))), (on 76 (.p (.fieldAddr 1 (.tmp 3)))), (on 77 (.r (.load false 1 (.tmp 76)))), (on 78 (.a (.bslice [(vi D 0)] 1 1 [(0, (.tmp 77))]))), (on 79 (.e (.append 1 8 (.tmp 75) (.tmp 78)))), (on 80 (.p (.nilchk (.tmp 71)))), (on 81 (.p (.fieldAddr 18 (.tmp 80)))), ⟨⟨none, none, .e (.store 1 (.tmp 81) (.tmp 79))⟩, []⟩])) (.skip)))) (.seq (.seq (.region [
 (mv 82 0), (on 83 (.p (.nilchk (.tmp 82)))), (on 84 (.p (.fieldAddr 18 (.tmp 83)))), (on 85 (.r (.load false 1 (.tmp 84)))), (on 86 (.p (.len (.tmp 85)))), (mv 87 0), (on 88 (.p (.nilchk (.tmp 87)))), (on 89 (.p (.fieldAddr 16 (.tmp 88)))), (on 90 (.r (.load false 1 (.tmp 89)))), (on 91 (.p (.bin .lss (.tmp 86) (.tmp 90))))]) (.cond (.tmp 91) (.seq (.region [
 (on 92 (.p (.build [(vi D 0), (vi D 0), .nils] []))), ⟨⟨none, none, .e (.store 3 (.tmp 4) (.tmp 92))⟩, []⟩, (on 5 (.p (.move (.const (.bool false))))), (on 6 (.p (.move (ci D 0))))]) (.ret)) (.skip))) (.seq (.region [
 (mv 93 0), (on 94 (.p (.nilchk (.tmp 93)))), (on 95 (.p (.fieldAddr 20 (.tmp 94)))), ⟨⟨none, none, .e (.store 1 (.tmp 95) (.const (.bool true)))⟩, []⟩]) (.seq (.region [
 (mv 96 0), (on 97 (.call (.const (.func 181 [] [])) [(.tmp 96)])), ⟨⟨none, none, .e (.store 3 (.tmp 4) (.tmp 97))⟩, []⟩, (on 5 (.p (.move (.const (.bool true))))), (on 6 (.p (.move (ci D 0))))]) (.ret)))))))⟩
theorem lf106_eq (D : Dom I S) : trFunc D (tyFn D) Tryz.f106 = some (lf106 D) := by kernel_rfl
noncomputable def lf107 (D : Dom I S) : LFunc I S := ⟨39, [.tmp 6], .seq (.region [
 (on 4 (.a (.box (.tmp 1)))), (on 5 (.a (.box (.tmp 2)))), (on 6 (.p (.move (.const .nils))))]) (.seq (.region [
 (mv 7 0), (mv 8 0), (on 9 (.p (.nilchk (.tmp 8)))), (on 10 (.p (.fieldAddr 5 (.tmp 9)))), (on 11 (.r (.load false 1 (.tmp 10)))), (on 12 (.p (.mkfunc 183 [] [(.tmp 4)]))), (on 13 (.call (.const (.func 182 [] [])) [(.tmp 11), (.tmp 12)])), (on 14 (.p (.nilchk (.tmp 7)))), (on 15 (.p (.fieldAddr 5 (.tmp 14)))), ⟨⟨none, none, .e (.store 1 (.tmp 15) (.tmp 13))⟩, []⟩]) (.seq (.seq (.region [
 (on 16 (.r (.load false 1 (.tmp 4)))), (on 17 (.p (.nilchk (.tmp 16)))), (on 18 (.p (.fieldAddr 1 (.tmp 17)))), (on 19 (.p (.fieldAddr 0 (.tmp 18)))), (on 20 (.r (.load false 1 (.tmp 19)))), (on 21 (.p (.bin .eql (.tmp 20) (ci D 3)))), (mv 22 21), ⟨⟨some 23, some (some 22, true), .p (.fieldAddr 1 (.tmp 5))⟩, []⟩,
 ⟨⟨some 24, some (some 22, true), .r (.load false 1 (.tmp 23))⟩, []⟩,
 ⟨⟨some 25, some (some 22, true), .p (.bin .eql (.tmp 24) (ci D 0))⟩, []⟩, (on 26 (.p (.pick (.tmp 22) (.tmp 25) (.const (.bool false)))))]) (.cond (.tmp 26) (.seq (.region [
 (mv 27 0), (on 28 (.r (.load false 1 (.tmp 4)))), (on 29 (.p (.fieldAddr 2 (.tmp 5)))), (on 30 (.r (.load false 1 (.tmp 29)))), (on 31 (.call (.const (.func 184 [] [])) [(.tmp 27), (.tmp 28), (.tmp 30)])), (mv 6 31)]) (.ret)) (.skip))) (.seq (.region [
 (mv 32 0), (on 33 (.r (.load false 1 (.tmp 4)))), (on 34 (.p (.nilchk (.tmp 33)))), (on 35 (.p (.fieldAddr 0 (.tmp 34)))), (on 36 (.r (.load false 1 (.tmp 35)))), (on 37 (.r (.load true 3 (.tmp 5)))), (on 38 (.call (.const (.func 95 [] [])) [(.tmp 32), (.tmp 36), (.tmp 37)]))]) (.seq (.region [
 (on 6 (.p (.move (.const .nils))))]) (.ret)))))⟩
theorem lf107_eq (D : Dom I S) : trFunc D (tyFn D) Tryz.f107 = some (lf107 D) := by kernel_rfl
noncomputable def lf108 (D : Dom I S) : LFunc I S := ⟨59, [.tmp 4, .tmp 5], .seq (.region [
 (on 3 (.a (.box (.tmp 1)))), (on 4 (.p (.move (.const .nils)))), (on 5 (.p (.move (ci D 0))))]) (.seq (.block 0 (.seq (.region [
 (mv 14 0), (on 15 (.r (.eqRef .ptr false (.tmp 14) (.const .nilp)))), (mv 13 15)]) (.cond (.tmp 13) (.seq (.region [
 (on 4 (.p (.move (.const .nils)))), (on 5 (.p (.move (ci D 1))))]) (.ret)) (.seq (.region [
 (on 17 (.r (.load true 4 (.tmp 3)))), (on 18 (.call (.const (.func 175 [] [])) [(.tmp 17)])), (on 19 (.p (.un .not (.tmp 18)))), (mv 16 19)]) (.cond (.tmp 16) (.seq (.region [
 (on 4 (.p (.move (.const .nils)))), (on 5 (.p (.move (ci D 1400))))]) (.ret)) (.skip)))))) (.seq (.region [
 (mv 21 0), (on 22 (.p (.nilchk (.tmp 21)))), (on 23 (.p (.fieldAddr 6 (.tmp 22)))), (on 24 (.r (.load false 1 (.tmp 23)))), (on 25 (.r (.load true 4 (.tmp 3)))), (on 26 (.call (.const (.func 185 [] [])) [(.tmp 24), (.tmp 25)])), (mv 20 26), (on 27 (.p (.extract 0 (.tmp 20)))), (on 28 (.p (.extract 1 (.tmp 20)))), (mv 6 27), (mv 7 28)]) (.seq (.region [
 (on 8 (.p (.move (.const .nils))))]) (.seq (.seq (.region [
 (mv 29 6), (on 30 (.p (.len (.tmp 29)))), (on 31 (.p (.move (ci D 0))))]) (.block 1 (.loop (.seq (.region [
 (on 32 (.p (.bin .lss (.tmp 31) (.tmp 30))))]) (.seq (.cond (.tmp 32) (.skip) (.exit 1)) (.seq (.block 2 (.seq (.region [
 (on 33 (.p (.idxSl 1 (.tmp 29) (.tmp 31)))), (on 34 (.r (.load false 1 (.tmp 33)))), (mv 10 34)]) (.seq (.region [
 (mv 36 0), (on 37 (.p (.nilchk (.tmp 36)))), (on 38 (.p (.fieldAddr 5 (.tmp 37)))), (on 39 (.r (.load false 1 (.tmp 38)))), (mv 40 10), (on 41 (.r (.lookup 0 (.agg [(vi D 0), (vi D 0), .nils]) false (.tmp 39) (.tmp 40)))), (on 42 (.r (.load true 4 (.tmp 3)))), (on 43 (.call (.const (.func 186 [] [])) [(.tmp 41), (.tmp 42)])), (mv 35 43), (on 44 (.p (.extract 0 (.tmp 35)))), (on 45 (.p (.extract 1 (.tmp 35)))), (mv 11 44), (mv 12 45)]) (.seq (.region [
 (mv 46 11)]) (.cond (.tmp 46) (.region [(mv 47 8), (mv 48 0), (on 49 (.p (.nilchk (.tmp 48)))), (on 50 (.p (.fieldAddr 5 (.tmp 49)))), (on 51 (.r (.load false 1 (.tmp 50)))), (mv 52 10), (on 53 (.r (.lookup 0 (.agg [(vi D 0), (vi D 0), .nils]) false (.tmp 51) (.tmp 52)))), (on 54 (.call (.const (.func 110 [] [])) [(.tmp 53)])), (on 55 (.a (.bslice [(vi D 0), (vi D 0), .nils] 1 3 [(0, (.tmp 54))]))), (on 56 (.e (.append 3 40 (.tmp 47) (.tmp 55)))), (mv 8 56)]) (.skip)))))) (.region [(on 57 (.p (.bin .add (.tmp 31) (ci D 1)))), (mv 31 57)]))))))) (.seq (.region [
 (mv 58 8), (mv 4 58), (on 5 (.p (.move (ci D 0))))]) (.ret))))))⟩
theorem lf108_eq (D : Dom I S) : trFunc D (tyFn D) Tryz.f108 = some (lf108 D) := by kernel_rfl
noncomputable def lf109 (D : Dom I S) : LFunc I S := ⟨24, [.tmp 2], .seq (.region [
 (on 2 (.p (.move (.const .nils))))]) (.seq (.seq (.region [
 (mv 6 0), (on 7 (.r (.eqRef .ptr false (.tmp 6) (.const .nilp))))]) (.cond (.tmp 7) (.seq (.region [
 (on 2 (.p (.move (.const .nils))))]) (.ret)) (.skip))) (.seq (.region [
 (on 3 (.p (.move (.const .nils))))]) (.seq (.seq (.region [
 (mv 8 0), (on 9 (.p (.nilchk (.tmp 8)))), (on 10 (.p (.fieldAddr 4 (.tmp 9)))), (on 11 (.r (.load false 1 (.tmp 10)))), (on 12 (.p (.len (.tmp 11)))), (on 13 (.p (.move (ci D 0))))]) (.block 0 (.loop (.seq (.region [
 (on 14 (.p (.bin .lss (.tmp 13) (.tmp 12))))]) (.seq (.cond (.tmp 14) (.skip) (.exit 0)) (.seq (.block 1 (.seq (.region [
 (on 15 (.p (.idxSl 4 (.tmp 11) (.tmp 13)))), (on 16 (.r (.load true 4 (.tmp 15)))), (on 5 (.a (.box (.const (.agg [(vi D 0), (vi D 0), .nils, (vi D 0)]))))), ⟨⟨none, none, .e (.store 4 (.tmp 5) (.tmp 16))⟩, []⟩]) (.region [(mv 17 3), (on 18 (.p (.fieldAddr 0 (.tmp 5)))), (on 19 (.r (.load true 2 (.tmp 18)))), (on 20 (.a (.bslice [(vi D 0), (vi D 0)] 1 2 [(0, (.tmp 19))]))), (on 21 (.e (.append 2 16 (.tmp 17) (.tmp 20)))), (mv 3 21)]))) (.region [(on 22 (.p (.bin .add (.tmp 13) (ci D 1)))), (mv 13 22)]))))))) (.seq (.region [
 (mv 23 3), (mv 2 23)]) (.ret)))))⟩
theorem lf109_eq (D : Dom I S) : trFunc D (tyFn D) Tryz.f109 = some (lf109 D) := by kernel_rfl
noncomputable def lf110 (D : Dom I S) : LFunc I S := ⟨27, [.cell 2 true 3], .seq (.region [
 (on 1 (.a (.box (.tmp 0)))), (on 2 (.a (.box (.const (.agg [(vi D 0), (vi D 0), .nils])))))]) (.seq (.region [
 (on 6 (.p (.fieldAddr 2 (.tmp 1)))), (on 7 (.r (.load false 1 (.tmp 6)))), (on 8 (.p (.len (.tmp 7)))), (on 9 (.a (.mkslice [.nils] 1 24 (.tmp 8) (.tmp 8)))), (mv 3 9)]) (.seq (.seq (.region [
 (on 10 (.p (.fieldAddr 2 (.tmp 1)))), (on 11 (.r (.load false 1 (.tmp 10)))), (on 12 (.p (.len (.tmp 11)))), (on 13 (.p (.move (ci D 0))))]) (.block 0 (.loop (.seq (.region [
 (on 14 (.p (.bin .lss (.tmp 13) (.tmp 12))))]) (.seq (.cond (.tmp 14) (.skip) (.exit 0)) (.seq (.block 1 (.seq (.region [
 (mv 15 13), (on 16 (.p (.idxSl 1 (.tmp 11) (.tmp 13)))), (on 17 (.r (.load false 1 (.tmp 16)))), (mv 4 15), (mv 5 17)]) (.region [(mv 18 3), (mv 19 4), (mv 20 5), (on 21 (.call (.const (.func 187 [] [])) [(.tmp 20)])), (on 22 (.p (.idxSl 1 (.tmp 18) (.tmp 19)))), ⟨⟨none, none, .e (.store 1 (.tmp 22) (.tmp 21))⟩, []⟩]))) (.region [(on 23 (.p (.bin .add (.tmp 13) (ci D 1)))), (mv 13 23)]))))))) (.seq (.region [
 (mv 24 3), (on 25 (.p (.fieldAddr 2 (.tmp 1)))), ⟨⟨none, none, .e (.store 1 (.tmp 25) (.tmp 24))⟩, []⟩]) (.seq (.region [
 (on 26 (.r (.load true 3 (.tmp 1)))), ⟨⟨none, none, .e (.store 3 (.tmp 2) (.tmp 26))⟩, []⟩]) (.ret)))))⟩
theorem lf110_eq (D : Dom I S) : trFunc D (tyFn D) Tryz.f110 = some (lf110 D) := by kernel_rfl
noncomputable def lf111 (D : Dom I S) : LFunc I S := ⟨9, [.tmp 2], .seq (.region [
 (on 2 (.p (.move (.const .nils))))]) (.seq (.region [
 (mv 3 0), (on 4 (.p (.nilchk (.tmp 3)))), (on 5 (.p (.fieldAddr 5 (.tmp 4)))), (on 6 (.r (.load false 1 (.tmp 5)))), (on 7 (.call (.const (.func 189 [] [])) [(.tmp 6)])), (on 8 (.call (.const (.func 188 [] [])) [(.tmp 7)])), (mv 2 8)]) (.ret))⟩
theorem lf111_eq (D : Dom I S) : trFunc D (tyFn D) Tryz.f111 = some (lf111 D) := by kernel_rfl
noncomputable def lf113 (D : Dom I S) : LFunc I S := ⟨51, [.tmp 4, .tmp 5], .seq (.region [
 (on 4 (.p (.move (.const (.int .u64 (D.ofInt (.ofNat 0))))))), (on 5 (.p (.move (.const (.int .u64 (D.ofInt (.ofNat 0)))))))]) (.seq (.region [
 (mv 14 0), (on 15 (.p (.bin .and (.tmp 14) (.const (.int .u64 (D.ofInt (.ofNat 4294967295))))))), (mv 6 15)]) (.seq (.region [
 (mv 16 0), (on 17 (.p (.bin .shr (.tmp 16) (.const (.int .u64 (D.ofInt (.ofNat 32))))))), (mv 7 17)]) (.seq (.region [
 (mv 18 1), (on 19 (.p (.bin .and (.tmp 18) (.const (.int .u64 (D.ofInt (.ofNat 4294967295))))))), (mv 8 19)]) (.seq (.region [
 (mv 20 1), (on 21 (.p (.bin .shr (.tmp 20) (.const (.int .u64 (D.ofInt (.ofNat 32))))))), (mv 9 21)]) (.seq (.region [
 (mv 22 6), (mv 23 8), (on 24 (.p (.bin .mul (.tmp 22) (.tmp 23)))), (mv 10 24)]) (.seq (.region [
 (mv 25 7), (mv 26 8), (on 27 (.p (.bin .mul (.tmp 25) (.tmp 26)))), (mv 28 10), (on 29 (.p (.bin .shr (.tmp 28) (.const (.int .u64 (D.ofInt (.ofNat 32))))))), (on 30 (.p (.bin .add (.tmp 27) (.tmp 29)))), (mv 11 30)]) (.seq (.region [
 (mv 31 11), (on 32 (.p (.bin .and (.tmp 31) (.const (.int .u64 (D.ofInt (.ofNat 4294967295))))))), (mv 12 32)]) (.seq (.region [
 (mv 33 11), (on 34 (.p (.bin .shr (.tmp 33) (.const (.int .u64 (D.ofInt (.ofNat 32))))))), (mv 13 34)]) (.seq (.region [
 (mv 35 12), (mv 36 6), (mv 37 9), (on 38 (.p (.bin .mul (.tmp 36) (.tmp 37)))), (on 39 (.p (.bin .add (.tmp 35) (.tmp 38)))), (mv 12 39)]) (.seq (.region [
 (mv 40 7), (mv 41 9), (on 42 (.p (.bin .mul (.tmp 40) (.tmp 41)))), (mv 43 13), (on 44 (.p (.bin .add (.tmp 42) (.tmp 43)))), (mv 45 12), (on 46 (.p (.bin .shr (.tmp 45) (.const (.int .u64 (D.ofInt (.ofNat 32))))))), (on 47 (.p (.bin .add (.tmp 44) (.tmp 46)))), (mv 4 47)]) (.seq (.region [
 (mv 48 0), (mv 49 1), (on 50 (.p (.bin .mul (.tmp 48) (.tmp 49)))), (mv 5 50)]) (.ret))))))))))))⟩
theorem lf113_eq (D : Dom I S) : trFunc D (tyFn D) Tryz.f113 = some (lf113 D) := by kernel_rfl
noncomputable def lf114 (D : Dom I S) : LFunc I S := ⟨14, [.tmp 2], .seq (.region [
 (on 2 (.p (.move (ci D 0))))]) (.seq (.seq (.region [
 (mv 3 0), (on 4 (.p (.bin .lss (.tmp 3) (ci D 0)))), (mv 5 4), ⟨⟨some 6, some (some 5, false), .p (.move (.tmp 0))⟩, []⟩,
 ⟨⟨some 7, some (some 5, false), .p (.bin .gtr (.tmp 6) (ci D 8192))⟩, []⟩, (on 8 (.p (.pick (.tmp 5) (.const (.bool true)) (.tmp 7))))]) (.cond (.tmp 8) (.seq (.region [
 (on 2 (.p (.move (ci D 0))))]) (.ret)) (.skip))) (.seq (.region [
 (mv 9 0), (on 10 (.p (.bin .add (ci D 12) (.tmp 9)))), (on 11 (.p (.bin .add (.tmp 10) (ci D 64)))), (on 12 (.p (.bin .sub (.tmp 11) (ci D 1)))), (on 13 (.p (.bin .quo (.tmp 12) (ci D 64)))), (mv 2 13)]) (.ret)))⟩
theorem lf114_eq (D : Dom I S) : trFunc D (tyFn D) Tryz.f114 = some (lf114 D) := by kernel_rfl
noncomputable def lf115 (D : Dom I S) : LFunc I S := ⟨46, [.tmp 4, .tmp 5], .seq (.region [
 ⟨⟨some 4, none, .p (.move (.const (.str (D.sOf ⟨#[]⟩))))⟩, []⟩, (on 5 (.p (.move (ci D 0))))]) (.seq (.seq (.region [
 (mv 8 0), (on 9 (.p (.bin .lss (.tmp 8) (ci D 0)))), (mv 10 9), ⟨⟨some 11, some (some 10, false), .p (.move (.tmp 0))⟩, []⟩,
 ⟨⟨some 12, some (some 10, false), .p (.bin .gtr (.tmp 11) (ci D 4294967295))⟩, []⟩, (on 13 (.p (.pick (.tmp 10) (.const (.bool true)) (.tmp 12)))), (mv 14 13), ⟨⟨some 15, some (some 14, false), .p (.move (.tmp 1))⟩, []⟩,
 ⟨⟨some 16, some (some 14, false), .p (.lenS (.tmp 15))⟩, []⟩,
 ⟨⟨some 17, some (some 14, false), .p (.bin .gtr (.tmp 16) (ci D 8192))⟩, []⟩, (on 18 (.p (.pick (.tmp 14) (.const (.bool true)) (.tmp 17))))]) (.cond (.tmp 18) (.seq (.region [
 ⟨⟨some 4, none, .p (.move (.const (.str (D.sOf ⟨#[]⟩))))⟩, []⟩, (on 5 (.p (.move (ci D 900))))]) (.ret)) (.skip))) (.seq (.region [
 (mv 19 0), (on 20 (.call (.const (.func 160 [] [])) [(.tmp 19), (ci D 4)])), (mv 21 1), (on 22 (.p (.lenS (.tmp 21)))), (on 23 (.call (.const (.func 160 [] [])) [(.tmp 22), (ci D 2)])), (on 24 (.p (.bin .add (.tmp 20) (.tmp 23)))), (mv 6 24)]) (.seq (.region [
 (mv 25 6), ⟨⟨some 26, none, .p (.bin .add (.const (.str (D.sOf ⟨#[70, 82]⟩))) (.tmp 25))⟩, []⟩, (mv 27 6), (mv 28 1), (on 29 (.p (.bin .add (.tmp 27) (.tmp 28)))), (on 30 (.call (.const (.func 190 [] [])) [(.tmp 29)])), (on 31 (.call (.const (.func 160 [] [])) [(.tmp 30), (ci D 4)])), (on 32 (.p (.bin .add (.tmp 26) (.tmp 31)))), (mv 33 1), (on 34 (.p (.bin .add (.tmp 32) (.tmp 33)))), (mv 7 34)]) (.seq (.region [
 (mv 35 7), (mv 36 1), (on 37 (.p (.lenS (.tmp 36)))), (on 38 (.call (.const (.func 114 [] [])) [(.tmp 37)])), (on 39 (.p (.bin .mul (.tmp 38) (ci D 64)))), (mv 40 7), (on 41 (.p (.lenS (.tmp 40)))), (on 42 (.p (.bin .sub (.tmp 39) (.tmp 41)))), (on 43 (.a (.mkslice [(.int .u8 (D.ofInt (.ofNat 0)))] 1 1 (.tmp 42) (.tmp 42)))), (on 44 (.r (.ofBytes (.tmp 43)))), (on 45 (.p (.bin .add (.tmp 35) (.tmp 44)))), (mv 4 45), (on 5 (.p (.move (ci D 0))))]) (.ret)))))⟩
theorem lf115_eq (D : Dom I S) : trFunc D (tyFn D) Tryz.f115 = some (lf115 D) := by kernel_rfl
noncomputable def lf116 (D : Dom I S) : LFunc I S := ⟨41, [.tmp 4, .tmp 5], .seq (.region [
 ⟨⟨some 4, none, .p (.move (.const (.str (D.sOf ⟨#[]⟩))))⟩, []⟩, (on 5 (.p (.move (ci D 0))))]) (.seq (.block 0 (.seq (.region [
 (mv 9 0), (on 10 (.r (.eqRef .ptr false (.tmp 9) (.const .nilp)))), (mv 8 10)]) (.cond (.tmp 8) (.seq (.region [
 ⟨⟨some 4, none, .p (.move (.const (.str (D.sOf ⟨#[]⟩))))⟩, []⟩, (on 5 (.p (.move (ci D 1))))]) (.ret)) (.seq (.region [
 (mv 12 1), (on 13 (.p (.bin .lss (.tmp 12) (ci D 0)))), (mv 14 13), ⟨⟨some 15, some (some 14, false), .p (.move (.tmp 1))⟩, []⟩,
 ⟨⟨some 16, some (some 14, false), .p (.move (.tmp 0))⟩, []⟩,
 ⟨⟨some 17, some (some 14, false), .p (.nilchk (.tmp 16))⟩, []⟩,
 ⟨⟨some 18, some (some 14, false), .p (.fieldAddr 0 (.tmp 17))⟩, []⟩,
 ⟨⟨some 19, some (some 14, false), .r (.load false 1 (.tmp 18))⟩, []⟩,
 ⟨⟨some 20, some (some 14, false), .p (.len (.tmp 19))⟩, []⟩,
 ⟨⟨some 21, some (some 14, false), .p (.bin .geq (.tmp 15) (.tmp 20))⟩, []⟩, (on 22 (.p (.pick (.tmp 14) (.const (.bool true)) (.tmp 21)))), (mv 11 22)]) (.cond (.tmp 11) (.seq (.region [
 ⟨⟨some 4, none, .p (.move (.const (.str (D.sOf ⟨#[]⟩))))⟩, []⟩, (on 5 (.p (.move (ci D 800))))]) (.ret)) (.skip)))))) (.seq (.seq (.region [
 (mv 24 0), (on 25 (.p (.nilchk (.tmp 24)))), (on 26 (.p (.fieldAddr 1 (.tmp 25)))), (on 27 (.r (.load false 1 (.tmp 26)))), (mv 28 1), ⟨⟨some 29, none, .r (.lookup 0 (.str (D.sOf ⟨#[]⟩)) true (.tmp 27) (.tmp 28))⟩, []⟩, (mv 23 29), (on 30 (.p (.extract 0 (.tmp 23)))), (on 31 (.p (.extract 1 (.tmp 23)))), (mv 6 30), (mv 7 31)]) (.seq (.region [
 (mv 32 7)]) (.cond (.tmp 32) (.seq (.region [
 (mv 33 6), (mv 4 33), (on 5 (.p (.move (ci D 0))))]) (.ret)) (.skip)))) (.seq (.region [
 (mv 34 0), (on 35 (.p (.nilchk (.tmp 34)))), (on 36 (.p (.fieldAddr 0 (.tmp 35)))), (on 37 (.r (.load false 1 (.tmp 36)))), (mv 38 1), (on 39 (.p (.idxSl 1 (.tmp 37) (.tmp 38)))), (on 40 (.r (.load false 1 (.tmp 39)))), (mv 4 40), (on 5 (.p (.move (ci D 0))))]) (.ret))))⟩
theorem lf116_eq (D : Dom I S) : trFunc D (tyFn D) Tryz.f116 = some (lf116 D) := by kernel_rfl
noncomputable def lf117 (D : Dom I S) : LFunc I S := ⟨10, [.tmp 2], .seq (.region [
 (on 2 (.p (.move (ci D 0))))]) (.seq (.seq (.region [
 (mv 3 0), (on 4 (.r (.eqRef .ptr false (.tmp 3) (.const .nilp))))]) (.cond (.tmp 4) (.seq (.region [
 (on 2 (.p (.move (ci D 0))))]) (.ret)) (.skip))) (.seq (.region [
 (mv 5 0), (on 6 (.p (.nilchk (.tmp 5)))), (on 7 (.p (.fieldAddr 0 (.tmp 6)))), (on 8 (.r (.load false 1 (.tmp 7)))), (on 9 (.p (.len (.tmp 8)))), (mv 2 9)]) (.ret)))⟩
theorem lf117_eq (D : Dom I S) : trFunc D (tyFn D) Tryz.f117 = some (lf117 D) := by kernel_rfl
noncomputable def lf118 (D : Dom I S) : LFunc I S := ⟨50, [.tmp 6], .seq (.region [
 (on 6 (.p (.move (ci D 0))))]) (.seq (.block 0 (.seq (.region [
 (mv 10 0), (on 11 (.r (.eqRef .ptr false (.tmp 10) (.const .nilp)))), (mv 9 11)]) (.cond (.tmp 9) (.seq (.region [
 (on 6 (.p (.move (ci D 1))))]) (.ret)) (.seq (.region [
 (mv 13 1), (on 14 (.p (.bin .lss (.tmp 13) (ci D 0)))), (mv 15 14), ⟨⟨some 16, some (some 15, false), .p (.move (.tmp 1))⟩, []⟩,
 ⟨⟨some 17, some (some 15, false), .p (.move (.tmp 0))⟩, []⟩,
 ⟨⟨some 18, some (some 15, false), .p (.nilchk (.tmp 17))⟩, []⟩,
 ⟨⟨some 19, some (some 15, false), .p (.fieldAddr 0 (.tmp 18))⟩, []⟩,
 ⟨⟨some 20, some (some 15, false), .r (.load false 1 (.tmp 19))⟩, []⟩,
 ⟨⟨some 21, some (some 15, false), .p (.len (.tmp 20))⟩, []⟩,
 ⟨⟨some 22, some (some 15, false), .p (.bin .geq (.tmp 16) (.tmp 21))⟩, []⟩, (on 23 (.p (.pick (.tmp 15) (.const (.bool true)) (.tmp 22)))), (mv 24 23), ⟨⟨some 25, some (some 24, false), .p (.move (.tmp 2))⟩, []⟩,
 ⟨⟨some 26, some (some 24, false), .p (.lenS (.tmp 25))⟩, []⟩,
 ⟨⟨some 27, some (some 24, false), .p (.bin .neq (.tmp 26) (ci D 64))⟩, []⟩, (on 28 (.p (.pick (.tmp 24) (.const (.bool true)) (.tmp 27)))), (mv 12 28)]) (.cond (.tmp 12) (.seq (.region [
 (on 6 (.p (.move (ci D 800))))]) (.ret)) (.skip)))))) (.seq (.seq (.region [
 (mv 30 0), (on 31 (.p (.nilchk (.tmp 30)))), (on 32 (.p (.fieldAddr 1 (.tmp 31)))), (on 33 (.r (.load false 1 (.tmp 32)))), (mv 34 1), ⟨⟨some 35, none, .r (.lookup 0 (.str (D.sOf ⟨#[]⟩)) true (.tmp 33) (.tmp 34))⟩, []⟩, (mv 29 35), (on 36 (.p (.extract 0 (.tmp 29)))), (on 37 (.p (.extract 1 (.tmp 29)))), (mv 7 36), (mv 8 37)]) (.seq (.region [
 (mv 38 8), (on 39 (.p (.un .not (.tmp 38))))]) (.cond (.tmp 39) (.region [(mv 40 0), (on 41 (.p (.nilchk (.tmp 40)))), (on 42 (.p (.fieldAddr 2 (.tmp 41)))), (on 43 (.call (.const (.func 39 [] [])) [(.tmp 42), (ci D 1)]))]) (.skip)))) (.seq (.region [
 (mv 44 0), (on 45 (.p (.nilchk (.tmp 44)))), (on 46 (.p (.fieldAddr 1 (.tmp 45)))), (on 47 (.r (.load false 1 (.tmp 46)))), (mv 48 1), (mv 49 2), ⟨⟨none, none, .e (.mapset 0 (.tmp 47) (.tmp 48) (.tmp 49))⟩, []⟩]) (.seq (.region [
 (on 6 (.p (.move (ci D 0))))]) (.ret)))))⟩
theorem lf118_eq (D : Dom I S) : trFunc D (tyFn D) Tryz.f118 = some (lf118 D) := by kernel_rfl
noncomputable def lf119 (D : Dom I S) : LFunc I S := ⟨26, [.tmp 2], .seq (.region [
 (on 2 (.p (.move (ci D 0))))]) (.seq (.seq (.region [
 (mv 5 0), (on 6 (.r (.eqRef .ptr false (.tmp 5) (.const .nilp))))]) (.cond (.tmp 6) (.seq (.region [
 (on 2 (.p (.move (ci D 1))))]) (.ret)) (.skip))) (.seq (.seq (.region [
 (mv 7 0), (on 8 (.p (.nilchk (.tmp 7)))), (on 9 (.p (.fieldAddr 1 (.tmp 8)))), (on 10 (.r (.load false 1 (.tmp 9)))), (on 11 (.e (.range (.tmp 10))))]) (.block 0 (.loop (.seq (.region [
 (on 12 (.e (.next (.tmp 11)))), (on 13 (.p (.extract 0 (.tmp 12))))]) (.seq (.cond (.tmp 13) (.skip) (.exit 0)) (.block 1 (.seq (.region [
 (on 14 (.r (.entry (.tmp 11)))), (on 15 (.p (.extract 0 (.tmp 14)))), (on 16 (.p (.extract 1 (.tmp 14)))), (mv 3 15), (mv 4 16)]) (.region [(mv 17 0), (on 18 (.p (.nilchk (.tmp 17)))), (on 19 (.p (.fieldAddr 0 (.tmp 18)))), (on 20 (.r (.load false 1 (.tmp 19)))), (mv 21 3), (mv 22 4), (on 23 (.p (.idxSl 1 (.tmp 20) (.tmp 21)))), ⟨⟨none, none, .e (.store 1 (.tmp 23) (.tmp 22))⟩, []⟩])))))))) (.seq (.region [
 (mv 24 0), (on 25 (.call (.const (.func 191 [] [])) [(.tmp 24)]))]) (.seq (.region [
 (on 2 (.p (.move (ci D 0))))]) (.ret)))))⟩
theorem lf119_eq (D : Dom I S) : trFunc D (tyFn D) Tryz.f119 = some (lf119 D) := by kernel_rfl
noncomputable def lf120 (D : Dom I S) : LFunc I S := ⟨117, [.tmp 2], .seq (.region [
 (on 2 (.p (.move (.const (.bool false)))))]) (.seq (.region [
 (mv 5 0), (on 6 (.p (.nilchk (.tmp 5)))), (on 7 (.p (.fieldAddr 1 (.tmp 6)))), (on 8 (.r (.load true 2 (.tmp 7)))), (mv 10 0), (on 11 (.p (.nilchk (.tmp 10)))), (on 12 (.p (.fieldAddr 3 (.tmp 11)))), (on 13 (.r (.load false 1 (.tmp 12)))), (on 14 (.p (.bin .neq (.tmp 13) (ci D 0)))), ⟨⟨some 9, none, .call (.const (.func 70 [] [])) [(.tmp 8)]⟩, [⟨some 13, none, .r (.load false 1 (.tmp 12))⟩]⟩, (mv 15 14), ⟨⟨some 16, some (some 15, false), .p (.move (.tmp 0))⟩, []⟩,
 ⟨⟨some 17, some (some 15, false), .p (.nilchk (.tmp 16))⟩, []⟩,
 ⟨⟨some 18, some (some 15, false), .p (.fieldAddr 8 (.tmp 17))⟩, []⟩,
 ⟨⟨some 19, some (some 15, false), .r (.load false 1 (.tmp 18))⟩, []⟩,
 ⟨⟨some 20, some (some 15, false), .p (.len (.tmp 19))⟩, []⟩,
 ⟨⟨some 21, some (some 15, false), .p (.bin .gtr (.tmp 20) (ci D 0))⟩, []⟩, (on 22 (.p (.pick (.tmp 15) (.const (.bool true)) (.tmp 21)))), (mv 3 9), (mv 4 22)]) (.seq (.seq (.region [
 (mv 23 0), (on 24 (.p (.nilchk (.tmp 23)))), (on 25 (.p (.fieldAddr 0 (.tmp 24)))), (on 26 (.r (.load false 1 (.tmp 25))))]) (.block 0 (.seq (.region [
 (on 28 (.p (.bin .eql (.tmp 26) (ci D 0)))), (mv 27 28)]) (.cond (.tmp 27) (.seq (.region [
 (mv 29 0), (on 30 (.p (.nilchk (.tmp 29)))), (on 31 (.p (.fieldAddr 5 (.tmp 30)))), (on 32 (.r (.load true 3 (.tmp 31)))), (on 33 (.call (.const (.func 129 [] [])) [(.tmp 32), (ci D 8)])), (mv 34 33), ⟨⟨some 35, some (some 34, true), .p (.move (.tmp 0))⟩, []⟩,
 ⟨⟨some 36, some (some 34, true), .p (.nilchk (.tmp 35))⟩, []⟩,
 ⟨⟨some 37, some (some 34, true), .p (.fieldAddr 1 (.tmp 36))⟩, []⟩,
 ⟨⟨some 38, some (some 34, true), .r (.load true 2 (.tmp 37))⟩, []⟩,
 ⟨⟨some 39, some (some 34, true), .p (.build [(vi D 0), (vi D 0)] [])⟩, []⟩,
 ⟨⟨some 40, some (some 34, true), .p (.eqAgg false 2 (.tmp 38) (.tmp 39))⟩, []⟩, (on 41 (.p (.pick (.tmp 34) (.tmp 40) (.const (.bool false))))), (mv 42 41), ⟨⟨some 43, some (some 42, true), .p (.move (.tmp 4))⟩, []⟩,
 ⟨⟨some 44, some (some 42, true), .p (.un .not (.tmp 43))⟩, []⟩, (on 45 (.p (.pick (.tmp 42) (.tmp 44) (.const (.bool false))))), (mv 46 45), ⟨⟨some 47, some (some 46, true), .p (.move (.tmp 0))⟩, []⟩,
 ⟨⟨some 48, some (some 46, true), .p (.nilchk (.tmp 47))⟩, []⟩,
 ⟨⟨some 49, some (some 46, true), .p (.fieldAddr 4 (.tmp 48))⟩, []⟩,
 ⟨⟨some 50, some (some 46, true), .r (.load false 1 (.tmp 49))⟩, []⟩,
 ⟨⟨some 51, some (some 46, true), .p (.un .not (.tmp 50))⟩, []⟩, (on 52 (.p (.pick (.tmp 46) (.tmp 51) (.const (.bool false))))), (mv 2 52)]) (.ret)) (.seq (.seq (.region [
 (on 54 (.p (.bin .eql (.tmp 26) (ci D 1)))), (mv 53 54)]) (.cond (.tmp 53) (.skip) (.region [(on 55 (.p (.bin .eql (.tmp 26) (ci D 2)))), (mv 53 55)]))) (.cond (.tmp 53) (.seq (.region [
 (mv 56 3), (mv 57 56), ⟨⟨some 58, some (some 57, true), .p (.move (.tmp 0))⟩, []⟩,
 ⟨⟨some 59, some (some 57, true), .p (.nilchk (.tmp 58))⟩, []⟩,
 ⟨⟨some 60, some (some 57, true), .p (.fieldAddr 3 (.tmp 59))⟩, []⟩,
 ⟨⟨some 61, some (some 57, true), .r (.load false 1 (.tmp 60))⟩, []⟩,
 ⟨⟨some 62, some (some 57, true), .call (.const (.func 177 [] [])) [(.tmp 61)]⟩, []⟩, (on 63 (.p (.pick (.tmp 57) (.tmp 62) (.const (.bool false))))), (mv 64 63), ⟨⟨some 65, some (some 64, true), .p (.move (.tmp 0))⟩, []⟩,
 ⟨⟨some 66, some (some 64, true), .p (.nilchk (.tmp 65))⟩, []⟩,
 ⟨⟨some 67, some (some 64, true), .p (.fieldAddr 8 (.tmp 66))⟩, []⟩,
 ⟨⟨some 68, some (some 64, true), .r (.load false 1 (.tmp 67))⟩, []⟩,
 ⟨⟨some 69, some (some 64, true), .call (.const (.func 71 [] [])) [(.tmp 68), (ci D 8)]⟩, []⟩, (on 70 (.p (.pick (.tmp 64) (.tmp 69) (.const (.bool false))))), (mv 71 70), ⟨⟨some 72, some (some 71, true), .p (.move (.tmp 0))⟩, []⟩,
 ⟨⟨some 73, some (some 71, true), .p (.nilchk (.tmp 72))⟩, []⟩,
 ⟨⟨some 74, some (some 71, true), .p (.fieldAddr 4 (.tmp 73))⟩, []⟩,
 ⟨⟨some 75, some (some 71, true), .r (.load false 1 (.tmp 74))⟩, []⟩,
 ⟨⟨some 76, some (some 71, true), .p (.un .not (.tmp 75))⟩, []⟩, (on 77 (.p (.pick (.tmp 71) (.tmp 76) (.const (.bool false))))), (mv 78 77), ⟨⟨some 79, some (some 78, true), .p (.move (.tmp 0))⟩, []⟩,
 ⟨⟨some 80, some (some 78, true), .p (.nilchk (.tmp 79))⟩, []⟩,
 ⟨⟨some 81, some (some 78, true), .p (.fieldAddr 5 (.tmp 80))⟩, []⟩,
 ⟨⟨some 82, some (some 78, true), .call (.const (.func 192 [] [])) [(.tmp 81)]⟩, []⟩, (on 83 (.p (.pick (.tmp 78) (.tmp 82) (.const (.bool false))))), (mv 2 83)]) (.ret)) (.seq (.region [
 (on 85 (.p (.bin .eql (.tmp 26) (ci D 3)))), (mv 84 85)]) (.cond (.tmp 84) (.seq (.region [
 (mv 86 3), (mv 87 86), ⟨⟨some 88, some (some 87, true), .p (.move (.tmp 4))⟩, []⟩,
 ⟨⟨some 89, some (some 87, true), .p (.un .not (.tmp 88))⟩, []⟩, (on 90 (.p (.pick (.tmp 87) (.tmp 89) (.const (.bool false))))), (mv 91 90), ⟨⟨some 92, some (some 91, true), .p (.move (.tmp 0))⟩, []⟩,
 ⟨⟨some 93, some (some 91, true), .p (.nilchk (.tmp 92))⟩, []⟩,
 ⟨⟨some 94, some (some 91, true), .p (.fieldAddr 5 (.tmp 93))⟩, []⟩,
 ⟨⟨some 95, some (some 91, true), .call (.const (.func 192 [] [])) [(.tmp 94)]⟩, []⟩, (on 96 (.p (.pick (.tmp 91) (.tmp 95) (.const (.bool false))))), (mv 2 96)]) (.ret)) (.seq (.region [
 (on 98 (.p (.bin .eql (.tmp 26) (ci D 4)))), (mv 97 98)]) (.cond (.tmp 97) (.seq (.region [
 (mv 99 3), (mv 100 99), ⟨⟨some 101, some (some 100, true), .p (.move (.tmp 4))⟩, []⟩,
 ⟨⟨some 102, some (some 100, true), .p (.un .not (.tmp 101))⟩, []⟩, (on 103 (.p (.pick (.tmp 100) (.tmp 102) (.const (.bool false))))), (mv 104 103), ⟨⟨some 105, some (some 104, true), .p (.move (.tmp 0))⟩, []⟩,
 ⟨⟨some 106, some (some 104, true), .p (.nilchk (.tmp 105))⟩, []⟩,
 ⟨⟨some 107, some (some 104, true), .p (.fieldAddr 4 (.tmp 106))⟩, []⟩,
 ⟨⟨some 108, some (some 104, true), .r (.load false 1 (.tmp 107))⟩, []⟩,
 ⟨⟨some 109, some (some 104, true), .p (.un .not (.tmp 108))⟩, []⟩, (on 110 (.p (.pick (.tmp 104) (.tmp 109) (.const (.bool false))))), (mv 111 110), ⟨⟨some 112, some (some 111, true), .p (.move (.tmp 0))⟩, []⟩,
 ⟨⟨some 113, some (some 111, true), .p (.nilchk (.tmp 112))⟩, []⟩,
 ⟨⟨some 114, some (some 111, true), .p (.fieldAddr 5 (.tmp 113))⟩, []⟩,
 ⟨⟨some 115, some (some 111, true), .call (.const (.func 192 [] [])) [(.tmp 114)]⟩, []⟩, (on 116 (.p (.pick (.tmp 111) (.tmp 115) (.const (.bool false))))), (mv 2 116)]) (.ret)) (.skip))))))))))) (.seq (.region [
 (on 2 (.p (.move (.const (.bool false)))))]) (.ret))))⟩
theorem lf120_eq (D : Dom I S) : trFunc D (tyFn D) Tryz.f120 = some (lf120 D) := by kernel_rfl
noncomputable def lf121 (D : Dom I S) : LFunc I S := ⟨47, [], .seq (.region [
 (mv 8 0), (mv 9 1), (on 10 (.p (.nilchk (.tmp 9)))), (on 11 (.p (.fieldAddr 0 (.tmp 10)))), (on 12 (.r (.load false 1 (.tmp 11)))), (on 13 (.call (.const (.func 81 [] [])) [(.tmp 8), (.tmp 12), (ci D 2)]))]) (.seq (.region [
 (mv 14 0), (mv 15 1), (on 16 (.p (.nilchk (.tmp 15)))), (on 17 (.p (.fieldAddr 1 (.tmp 16)))), (on 18 (.r (.load false 1 (.tmp 17)))), (on 19 (.p (.len (.tmp 18)))), (on 20 (.call (.const (.func 81 [] [])) [(.tmp 14), (.tmp 19), (ci D 1)]))]) (.seq (.seq (.region [
 (mv 21 1), (on 22 (.p (.nilchk (.tmp 21)))), (on 23 (.p (.fieldAddr 1 (.tmp 22)))), (on 24 (.r (.load false 1 (.tmp 23)))), (on 25 (.p (.len (.tmp 24)))), (on 26 (.p (.move (ci D 0))))]) (.block 0 (.loop (.seq (.region [
 (on 27 (.p (.bin .lss (.tmp 26) (.tmp 25))))]) (.seq (.cond (.tmp 27) (.skip) (.exit 0)) (.seq (.block 1 (.seq (.region [
 (on 28 (.p (.idxSl 1 (.tmp 24) (.tmp 26)))), (on 29 (.r (.load false 1 (.tmp 28)))), (mv 5 29)]) (.region [(mv 30 0), (mv 31 5), (on 32 (.call (.const (.func 81 [] [])) [(.tmp 30), (.tmp 31), (ci D 4)]))]))) (.region [(on 33 (.p (.bin .add (.tmp 26) (ci D 1)))), (mv 26 33)]))))))) (.seq (.region [
 (mv 34 1), (on 35 (.p (.nilchk (.tmp 34)))), (on 36 (.p (.fieldAddr 2 (.tmp 35)))), (on 37 (.r (.load false 1 (.tmp 36)))), (on 38 (.p (.len (.tmp 37)))), (on 39 (.p (.move (ci D 0))))]) (.block 2 (.loop (.seq (.region [
 (on 40 (.p (.bin .lss (.tmp 39) (.tmp 38))))]) (.seq (.cond (.tmp 40) (.skip) (.exit 2)) (.seq (.block 3 (.seq (.region [
 (on 41 (.p (.idxSl 1 (.tmp 37) (.tmp 39)))), (on 42 (.r (.load false 1 (.tmp 41)))), (mv 7 42)]) (.region [(mv 43 0), (mv 44 7), (on 45 (.call (.const (.func 81 [] [])) [(.tmp 43), (.tmp 44), (ci D 1)]))]))) (.region [(on 46 (.p (.bin .add (.tmp 39) (ci D 1)))), (mv 39 46)])))))))))⟩
theorem lf121_eq (D : Dom I S) : trFunc D (tyFn D) Tryz.f121 = some (lf121 D) := by kernel_rfl
noncomputable def lf122 (D : Dom I S) : LFunc I S := ⟨20, [.tmp 2], .seq (.region [
 (on 2 (.p (.move (ci D 0))))]) (.seq (.seq (.region [
 (mv 3 0), (on 4 (.r (.eqRef .ptr false (.tmp 3) (.const .nilp))))]) (.cond (.tmp 4) (.seq (.region [
 (on 2 (.p (.move (ci D 0))))]) (.ret)) (.skip))) (.seq (.region [
 (mv 5 0), (on 6 (.p (.nilchk (.tmp 5)))), (on 7 (.p (.fieldAddr 0 (.tmp 6)))), (on 8 (.r (.load false 1 (.tmp 7)))), (mv 10 0), (on 11 (.p (.nilchk (.tmp 10)))), (on 12 (.p (.fieldAddr 2 (.tmp 11)))), (on 13 (.r (.load false 1 (.tmp 12)))), (mv 15 0), (on 16 (.p (.nilchk (.tmp 15)))), (on 17 (.p (.fieldAddr 3 (.tmp 16)))), ⟨⟨some 9, none, .call (.const (.func 117 [] [])) [(.tmp 8)]⟩, [⟨some 13, none, .r (.load false 1 (.tmp 12))⟩]⟩, (on 14 (.p (.bin .sub (.tmp 9) (.tmp 13)))), ⟨⟨some 18, none, .call (.const (.func 38 [] [])) [(.tmp 17)]⟩, [⟨some 13, none, .r (.load false 1 (.tmp 12))⟩]⟩, (on 19 (.p (.bin .sub (.tmp 14) (.tmp 18)))), (mv 2 19)]) (.ret)))⟩
theorem lf122_eq (D : Dom I S) : trFunc D (tyFn D) Tryz.f122 = some (lf122 D) := by kernel_rfl
noncomputable def lf123 (D : Dom I S) : LFunc I S := ⟨44, [], .seq (.region [
 (mv 7 0), (on 8 (.p (.nilchk (.tmp 7)))), (on 9 (.p (.fieldAddr 1 (.tmp 8)))), (on 10 (.r (.load false 1 (.tmp 9)))), (mv 11 1), (on 12 (.call (.const (.func 115 [] [])) [(.tmp 10), (.tmp 11)])), (mv 6 12), (on 13 (.p (.extract 0 (.tmp 6)))), (on 14 (.p (.extract 1 (.tmp 6)))), (mv 4 13), (mv 5 14)]) (.seq (.block 0 (.loop (.seq (.seq (.region [
 (mv 15 4), ⟨⟨some 16, none, .p (.bin .neq (.tmp 15) (.const (.str (D.sOf ⟨#[]⟩))))⟩, []⟩]) (.cond (.tmp 16) (.skip) (.exit 0))) (.seq (.block 1 (.seq (.region [
 (mv 19 0), (on 20 (.p (.nilchk (.tmp 19)))), (on 21 (.p (.fieldAddr 0 (.tmp 20)))), (on 22 (.r (.load false 1 (.tmp 21)))), (mv 23 0), (on 24 (.p (.nilchk (.tmp 23)))), (on 25 (.p (.fieldAddr 2 (.tmp 24)))), (on 26 (.r (.load false 1 (.tmp 25)))), (mv 27 4), (on 28 (.p (.slStr (.tmp 27) none (some (ci D 64))))), (on 29 (.call (.const (.func 118 [] [])) [(.tmp 22), (.tmp 26), (.tmp 28)]))]) (.region [(mv 30 0), (on 31 (.p (.nilchk (.tmp 30)))), (on 32 (.p (.fieldAddr 2 (.tmp 31)))), (on 33 (.r (.load false 1 (.tmp 32)))), (on 34 (.p (.bin .add (.tmp 33) (ci D 1)))), (on 35 (.p (.nilchk (.tmp 30)))), (on 36 (.p (.fieldAddr 2 (.tmp 35)))), ⟨⟨none, none, .e (.store 1 (.tmp 36) (.tmp 34))⟩, []⟩]))) (.region [(mv 17 4), (on 18 (.p (.slStr (.tmp 17) (some (ci D 64)) none))), (mv 4 18)]))))) (.region [(mv 37 0), (on 38 (.p (.nilchk (.tmp 37)))), (on 39 (.p (.fieldAddr 1 (.tmp 38)))), (on 40 (.r (.load false 1 (.tmp 39)))), (on 41 (.p (.bin .add (.tmp 40) (ci D 1)))), (on 42 (.p (.nilchk (.tmp 37)))), (on 43 (.p (.fieldAddr 1 (.tmp 42)))), ⟨⟨none, none, .e (.store 1 (.tmp 43) (.tmp 41))⟩, []⟩]))⟩
theorem lf123_eq (D : Dom I S) : trFunc D (tyFn D) Tryz.f123 = some (lf123 D) := by kernel_rfl
noncomputable def lf124 (D : Dom I S) : LFunc I S := ⟨42, [.tmp 4], .seq (.region [
 (on 4 (.p (.move (ci D 0))))]) (.seq (.seq (.region [
 (mv 7 0), (on 8 (.p (.nilchk (.tmp 7)))), (on 9 (.p (.fieldAddr 0 (.tmp 8)))), (on 10 (.r (.load false 1 (.tmp 9)))), (on 11 (.p (.lenS (.tmp 10)))), (mv 12 1), (on 13 (.p (.bin .lss (.tmp 11) (.tmp 12))))]) (.cond (.tmp 13) (.seq (.region [
 (mv 14 0), (on 15 (.p (.nilchk (.tmp 14)))), (on 16 (.p (.fieldAddr 0 (.tmp 15)))), ⟨⟨none, none, .e (.store 1 (.tmp 16) (.const (.str (D.sOf ⟨#[]⟩))))⟩, []⟩]) (.seq (.region [
 (on 4 (.p (.move (ci D 0))))]) (.ret))) (.skip))) (.seq (.region [
 (on 5 (.p (.move (ci D 0))))]) (.seq (.seq (.region [
 (mv 17 1), (on 18 (.p (.move (ci D 0))))]) (.block 0 (.loop (.seq (.region [
 (on 19 (.p (.bin .lss (.tmp 18) (.tmp 17))))]) (.seq (.cond (.tmp 19) (.skip) (.exit 0)) (.seq (.block 1 (.seq (.region [
 (mv 20 18), (mv 6 20)]) (.region [(mv 21 5), (on 22 (.p (.bin .shl (.tmp 21) (.const (.int .u64 (D.ofInt (.ofNat 8))))))), (mv 23 0), (on 24 (.p (.nilchk (.tmp 23)))), (on 25 (.p (.fieldAddr 0 (.tmp 24)))), (on 26 (.r (.load false 1 (.tmp 25)))), (mv 27 6), (on 28 (.p (.idxStr (.tmp 26) (.tmp 27)))), (on 29 (.p (.convInt .i64 (.tmp 28)))), (on 30 (.p (.bin .or (.tmp 22) (.tmp 29)))), (mv 5 30)]))) (.region [(on 31 (.p (.bin .add (.tmp 18) (ci D 1)))), (mv 18 31)]))))))) (.seq (.region [
 (mv 32 0), (mv 33 0), (on 34 (.p (.nilchk (.tmp 33)))), (on 35 (.p (.fieldAddr 0 (.tmp 34)))), (on 36 (.r (.load false 1 (.tmp 35)))), (mv 37 1), (on 38 (.p (.slStr (.tmp 36) (some (.tmp 37)) none))), (on 39 (.p (.nilchk (.tmp 32)))), (on 40 (.p (.fieldAddr 0 (.tmp 39)))), ⟨⟨none, none, .e (.store 1 (.tmp 40) (.tmp 38))⟩, []⟩]) (.seq (.region [
 (mv 41 5), (mv 4 41)]) (.ret))))))⟩
theorem lf124_eq (D : Dom I S) : trFunc D (tyFn D) Tryz.f124 = some (lf124 D) := by kernel_rfl
noncomputable def lf125 (D : Dom I S) : LFunc I S := ⟨33, [.cell 2 true 3], .seq (.region [
 (on 2 (.a (.box (.const (.agg [(vi D 0), .nils, .nils])))))]) (.seq (.region [
 (mv 5 0), (on 6 (.call (.const (.func 124 [] [])) [(.tmp 5), (ci D 2)])), (on 7 (.p (.build [(vi D 0), .nils, .nils] [(0, 1, (.tmp 6))]))), (on 3 (.a (.box (.const (.agg [(vi D 0), .nils, .nils]))))), ⟨⟨none, none, .e (.store 3 (.tmp 3) (.tmp 7))⟩, []⟩]) (.seq (.region [
 (mv 8 0), (on 9 (.call (.const (.func 124 [] [])) [(.tmp 8), (ci D 1)])), (mv 4 9)]) (.seq (.seq (.region [
 (mv 10 4), (on 11 (.p (.move (ci D 0))))]) (.block 0 (.loop (.seq (.region [
 (on 12 (.p (.bin .lss (.tmp 11) (.tmp 10))))]) (.seq (.cond (.tmp 12) (.skip) (.exit 0)) (.seq (.block 1 (.region [(on 13 (.p (.fieldAddr 1 (.tmp 3)))), (on 14 (.r (.load false 1 (.tmp 13)))), (mv 15 0), ⟨⟨some 16, none, .call (.const (.func 124 [] [])) [(.tmp 15), (ci D 4)]⟩, [⟨some 14, none, .r (.load false 1 (.tmp 13))⟩]⟩, (on 17 (.a (.bslice [(vi D 0)] 1 1 [(0, (.tmp 16))]))), (on 18 (.e (.append 1 8 (.tmp 14) (.tmp 17)))), (on 19 (.p (.fieldAddr 1 (.tmp 3)))), ⟨⟨none, none, .e (.store 1 (.tmp 19) (.tmp 18))⟩, []⟩])) (.region [(on 20 (.p (.bin .add (.tmp 11) (ci D 1)))), (mv 11 20)]))))))) (.seq (.seq (.region [
 (mv 21 4), (on 22 (.p (.move (ci D 0))))]) (.block 2 (.loop (.seq (.region [
 (on 23 (.p (.bin .lss (.tmp 22) (.tmp 21))))]) (.seq (.cond (.tmp 23) (.skip) (.exit 2)) (.seq (.block 3 (.region [(on 24 (.p (.fieldAddr 2 (.tmp 3)))), (on 25 (.r (.load false 1 (.tmp 24)))), (mv 26 0), ⟨⟨some 27, none, .call (.const (.func 124 [] [])) [(.tmp 26), (ci D 1)]⟩, [⟨some 25, none, .r (.load false 1 (.tmp 24))⟩]⟩, (on 28 (.a (.bslice [(vi D 0)] 1 1 [(0, (.tmp 27))]))), (on 29 (.e (.append 1 8 (.tmp 25) (.tmp 28)))), (on 30 (.p (.fieldAddr 2 (.tmp 3)))), ⟨⟨none, none, .e (.store 1 (.tmp 30) (.tmp 29))⟩, []⟩])) (.region [(on 31 (.p (.bin .add (.tmp 22) (ci D 1)))), (mv 22 31)]))))))) (.seq (.region [
 (on 32 (.r (.load true 3 (.tmp 3)))), ⟨⟨none, none, .e (.store 3 (.tmp 2) (.tmp 32))⟩, []⟩]) (.ret))))))⟩
theorem lf125_eq (D : Dom I S) : trFunc D (tyFn D) Tryz.f125 = some (lf125 D) := by kernel_rfl
noncomputable def lf126 (D : Dom I S) : LFunc I S := ⟨10, [.cell 2 true 2], .seq (.region [
 (on 2 (.a (.box (.const (.agg [(vi D 0), (vi D 0)])))))]) (.seq (.region [
 (mv 4 0), (on 5 (.call (.const (.func 124 [] [])) [(.tmp 4), (ci D 1)])), (mv 3 5)]) (.seq (.region [
 (mv 6 3), (mv 7 0), (on 8 (.call (.const (.func 124 [] [])) [(.tmp 7), (ci D 2)])), (on 9 (.p (.build [(vi D 0), (vi D 0)] [(0, 1, (.tmp 6)), (1, 1, (.tmp 8))]))), ⟨⟨none, none, .e (.store 2 (.tmp 2) (.tmp 9))⟩, []⟩]) (.ret)))⟩
theorem lf126_eq (D : Dom I S) : trFunc D (tyFn D) Tryz.f126 = some (lf126 D) := by kernel_rfl
noncomputable def lf127 (D : Dom I S) : LFunc I S := ⟨41, [.tmp 2, .tmp 3], .seq (.region [
 (on 2 (.p (.move (ci D 0)))), (on 3 (.p (.move (.const .nils))))]) (.seq (.region [
 (mv 7 0), (on 8 (.call (.const (.func 124 [] [])) [(.tmp 7), (ci D 4)])), (on 9 (.p (.bin .sub (.tmp 8) (ci D 1)))), (mv 4 9)]) (.seq (.region [
 (on 5 (.p (.move (.const .nils))))]) (.seq (.seq (.region [
 (mv 10 0), (on 11 (.call (.const (.func 124 [] [])) [(.tmp 10), (ci D 1)])), (on 12 (.p (.move (ci D 0))))]) (.block 0 (.loop (.seq (.region [
 (on 13 (.p (.bin .lss (.tmp 12) (.tmp 11))))]) (.seq (.cond (.tmp 13) (.skip) (.exit 0)) (.seq (.block 1 (.seq (.region [
 (mv 14 0), (on 15 (.call (.const (.func 124 [] [])) [(.tmp 14), (ci D 1)])), (on 16 (.p (.build [(vi D 0), (vi D 0), (vi D 0), .nils, (vi D 0), (vi D 0), .nils, .nils] [(0, 1, (.tmp 15))]))), (on 6 (.a (.box (.const (.agg [(vi D 0), (vi D 0), (vi D 0), .nils, (vi D 0), (vi D 0), .nils, .nils]))))), ⟨⟨none, none, .e (.store 8 (.tmp 6) (.tmp 16))⟩, []⟩]) (.seq (.seq (.region [
 (on 17 (.p (.fieldAddr 0 (.tmp 6)))), (on 18 (.r (.load false 1 (.tmp 17))))]) (.block 2 (.seq (.region [
 (on 20 (.p (.bin .eql (.tmp 18) (ci D 0)))), (mv 19 20)]) (.cond (.tmp 19) (.region [(mv 21 0), (on 22 (.call (.const (.func 193 [] [])) [(.tmp 21)])), (on 23 (.p (.fieldAddr 1 (.tmp 6)))), ⟨⟨none, none, .e (.store 3 (.tmp 23) (.tmp 22))⟩, []⟩]) (.seq (.region [
 (on 25 (.p (.bin .eql (.tmp 18) (ci D 1)))), (mv 24 25)]) (.cond (.tmp 24) (.region [(mv 26 0), (on 27 (.call (.const (.func 124 [] [])) [(.tmp 26), (ci D 2)])), (on 28 (.p (.fieldAddr 4 (.tmp 6)))), ⟨⟨none, none, .e (.store 1 (.tmp 28) (.tmp 27))⟩, []⟩]) (.seq (.region [
 (on 30 (.p (.bin .eql (.tmp 18) (ci D 2)))), (mv 29 30)]) (.cond (.tmp 29) (.region [(mv 31 0), (on 32 (.call (.const (.func 125 [] [])) [(.tmp 31)])), (on 33 (.p (.fieldAddr 5 (.tmp 6)))), ⟨⟨none, none, .e (.store 3 (.tmp 33) (.tmp 32))⟩, []⟩]) (.skip))))))))) (.region [(mv 34 5), (on 35 (.r (.load true 8 (.tmp 6)))), (on 36 (.a (.bslice [(vi D 0), (vi D 0), (vi D 0), .nils, (vi D 0), (vi D 0), .nils, .nils] 1 8 [(0, (.tmp 35))]))), (on 37 (.e (.append 8 112 (.tmp 34) (.tmp 36)))), (mv 5 37)])))) (.region [(on 38 (.p (.bin .add (.tmp 12) (ci D 1)))), (mv 12 38)]))))))) (.seq (.region [
 (mv 39 4), (mv 40 5), (mv 2 39), (mv 3 40)]) (.ret)))))⟩
theorem lf127_eq (D : Dom I S) : trFunc D (tyFn D) Tryz.f127 = some (lf127 D) := by kernel_rfl
noncomputable def lf128 (D : Dom I S) : LFunc I S := ⟨6, [.tmp 2], .seq (.region [
 (on 2 (.p (.move (.const (.bool false)))))]) (.seq (.region [
 (mv 3 0), (on 4 (.call (.const (.func 124 [] [])) [(.tmp 3), (ci D 1)])), (on 5 (.p (.bin .eql (.tmp 4) (ci D 1)))), (mv 2 5)]) (.ret))⟩
theorem lf128_eq (D : Dom I S) : trFunc D (tyFn D) Tryz.f128 = some (lf128 D) := by kernel_rfl
noncomputable def lf129 (D : Dom I S) : LFunc I S := ⟨93, [.tmp 4], .seq (.region [
 (on 2 (.a (.box (.tmp 0)))), (on 4 (.p (.move (.const (.bool false)))))]) (.seq (.seq (.region [
 (mv 7 1), (on 8 (.p (.bin .lss (.tmp 7) (ci D 1)))), (mv 9 8), ⟨⟨some 10, some (some 9, false), .p (.move (.tmp 1))⟩, []⟩,
 ⟨⟨some 11, some (some 9, false), .p (.bin .gtr (.tmp 10) (ci D 8))⟩, []⟩, (on 12 (.p (.pick (.tmp 9) (.const (.bool true)) (.tmp 11)))), (mv 13 12), ⟨⟨some 14, some (some 13, false), .p (.fieldAddr 0 (.tmp 2))⟩, []⟩,
 ⟨⟨some 15, some (some 13, false), .r (.load false 1 (.tmp 14))⟩, []⟩,
 ⟨⟨some 16, some (some 13, false), .p (.bin .lss (.tmp 15) (ci D 1))⟩, []⟩, (on 17 (.p (.pick (.tmp 13) (.const (.bool true)) (.tmp 16)))), (mv 18 17), ⟨⟨some 19, some (some 18, false), .p (.fieldAddr 0 (.tmp 2))⟩, []⟩,
 ⟨⟨some 20, some (some 18, false), .r (.load false 1 (.tmp 19))⟩, []⟩,
 ⟨⟨some 21, some (some 18, false), .p (.bin .gtr (.tmp 20) (ci D 65535))⟩, []⟩, (on 22 (.p (.pick (.tmp 18) (.const (.bool true)) (.tmp 21)))), (mv 23 22), ⟨⟨some 24, some (some 23, false), .p (.fieldAddr 1 (.tmp 2))⟩, []⟩,
 ⟨⟨some 25, some (some 23, false), .r (.load false 1 (.tmp 24))⟩, []⟩,
 ⟨⟨some 26, some (some 23, false), .p (.len (.tmp 25))⟩, []⟩,
 ⟨⟨some 27, some (some 23, false), .p (.bin .lss (.tmp 26) (ci D 1))⟩, []⟩, (on 28 (.p (.pick (.tmp 23) (.const (.bool true)) (.tmp 27)))), (mv 29 28), ⟨⟨some 30, some (some 29, false), .p (.fieldAddr 1 (.tmp 2))⟩, []⟩,
 ⟨⟨some 31, some (some 29, false), .r (.load false 1 (.tmp 30))⟩, []⟩,
 ⟨⟨some 32, some (some 29, false), .p (.len (.tmp 31))⟩, []⟩,
 ⟨⟨some 33, some (some 29, false), .p (.bin .gtr (.tmp 32) (ci D 32))⟩, []⟩, (on 34 (.p (.pick (.tmp 29) (.const (.bool true)) (.tmp 33)))), (mv 35 34), ⟨⟨some 36, some (some 35, false), .p (.fieldAddr 2 (.tmp 2))⟩, []⟩,
 ⟨⟨some 37, some (some 35, false), .r (.load false 1 (.tmp 36))⟩, []⟩,
 ⟨⟨some 38, some (some 35, false), .p (.len (.tmp 37))⟩, []⟩,
 ⟨⟨some 39, some (some 35, false), .p (.fieldAddr 1 (.tmp 2))⟩, []⟩,
 ⟨⟨some 40, some (some 35, false), .r (.load false 1 (.tmp 39))⟩, []⟩,
 ⟨⟨some 41, some (some 35, false), .p (.len (.tmp 40))⟩, []⟩,
 ⟨⟨some 42, some (some 35, false), .p (.bin .neq (.tmp 38) (.tmp 41))⟩, []⟩, (on 43 (.p (.pick (.tmp 35) (.const (.bool true)) (.tmp 42)))), (mv 44 43), ⟨⟨some 45, some (some 44, false), .p (.fieldAddr 1 (.tmp 2))⟩, []⟩,
 ⟨⟨some 46, some (some 44, false), .r (.load false 1 (.tmp 45))⟩, []⟩,
 ⟨⟨some 47, some (some 44, false), .p (.idxSl 1 (.tmp 46) (ci D 0))⟩, []⟩,
 ⟨⟨some 48, some (some 44, false), .r (.load false 1 (.tmp 47))⟩, []⟩,
 ⟨⟨some 49, some (some 44, false), .p (.bin .neq (.tmp 48) (ci D 0))⟩, []⟩, (on 50 (.p (.pick (.tmp 44) (.const (.bool true)) (.tmp 49))))]) (.cond (.tmp 50) (.seq (.region [
 (on 4 (.p (.move (.const (.bool false)))))]) (.ret)) (.skip))) (.seq (.seq (.region [
 (on 51 (.p (.fieldAddr 1 (.tmp 2)))), (on 52 (.r (.load false 1 (.tmp 51)))), (on 53 (.p (.len (.tmp 52)))), (on 54 (.p (.move (ci D 0))))]) (.block 0 (.loop (.seq (.region [
 (on 55 (.p (.bin .lss (.tmp 54) (.tmp 53))))]) (.seq (.cond (.tmp 55) (.skip) (.exit 0)) (.seq (.block 1 (.seq (.region [
 (mv 56 54), (on 57 (.p (.idxSl 1 (.tmp 52) (.tmp 54)))), (on 58 (.r (.load false 1 (.tmp 57)))), (mv 5 56), (mv 6 58)]) (.seq (.region [
 (mv 59 6), (on 60 (.p (.bin .geq (.tmp 59) (ci D 4294967296)))), (mv 61 60), ⟨⟨some 62, some (some 61, false), .p (.move (.tmp 5))⟩, []⟩,
 ⟨⟨some 63, some (some 61, false), .p (.bin .gtr (.tmp 62) (ci D 0))⟩, []⟩,
 ⟨⟨some 64, some (some 61, false), .p (.move (.tmp 63))⟩, []⟩,
 ⟨⟨some 65, some (some 64, true), .p (.move (.tmp 6))⟩, []⟩,
 ⟨⟨some 66, some (some 64, true), .p (.fieldAddr 1 (.tmp 2))⟩, []⟩,
 ⟨⟨some 67, some (some 64, true), .r (.load false 1 (.tmp 66))⟩, []⟩,
 ⟨⟨some 68, some (some 64, true), .p (.move (.tmp 5))⟩, []⟩,
 ⟨⟨some 69, some (some 64, true), .p (.bin .sub (.tmp 68) (ci D 1))⟩, []⟩,
 ⟨⟨some 70, some (some 64, true), .p (.idxSl 1 (.tmp 67) (.tmp 69))⟩, []⟩,
 ⟨⟨some 71, some (some 64, true), .r (.load false 1 (.tmp 70))⟩, []⟩,
 ⟨⟨some 72, some (some 64, true), .p (.bin .leq (.tmp 65) (.tmp 71))⟩, []⟩,
 ⟨⟨some 73, some (some 61, false), .p (.pick (.tmp 64) (.tmp 72) (.const (.bool false)))⟩, []⟩, (on 74 (.p (.pick (.tmp 61) (.const (.bool true)) (.tmp 73)))), (mv 75 74), ⟨⟨some 76, some (some 75, false), .p (.fieldAddr 2 (.tmp 2))⟩, []⟩,
 ⟨⟨some 77, some (some 75, false), .r (.load false 1 (.tmp 76))⟩, []⟩,
 ⟨⟨some 78, some (some 75, false), .p (.move (.tmp 5))⟩, []⟩,
 ⟨⟨some 79, some (some 75, false), .p (.idxSl 1 (.tmp 77) (.tmp 78))⟩, []⟩,
 ⟨⟨some 80, some (some 75, false), .r (.load false 1 (.tmp 79))⟩, []⟩,
 ⟨⟨some 81, some (some 75, false), .p (.bin .lss (.tmp 80) (ci D 0))⟩, []⟩, (on 82 (.p (.pick (.tmp 75) (.const (.bool true)) (.tmp 81)))), (mv 83 82), ⟨⟨some 84, some (some 83, false), .p (.fieldAddr 2 (.tmp 2))⟩, []⟩,
 ⟨⟨some 85, some (some 83, false), .r (.load false 1 (.tmp 84))⟩, []⟩,
 ⟨⟨some 86, some (some 83, false), .p (.move (.tmp 5))⟩, []⟩,
 ⟨⟨some 87, some (some 83, false), .p (.idxSl 1 (.tmp 85) (.tmp 86))⟩, []⟩,
 ⟨⟨some 88, some (some 83, false), .r (.load false 1 (.tmp 87))⟩, []⟩,
 ⟨⟨some 89, some (some 83, false), .p (.move (.tmp 1))⟩, []⟩,
 ⟨⟨some 90, some (some 83, false), .p (.bin .geq (.tmp 88) (.tmp 89))⟩, []⟩, (on 91 (.p (.pick (.tmp 83) (.const (.bool true)) (.tmp 90))))]) (.cond (.tmp 91) (.seq (.region [
 (on 4 (.p (.move (.const (.bool false)))))]) (.ret)) (.skip))))) (.region [(on 92 (.p (.bin .add (.tmp 54) (ci D 1)))), (mv 54 92)]))))))) (.seq (.region [
 (on 4 (.p (.move (.const (.bool true)))))]) (.ret))))⟩
theorem lf129_eq (D : Dom I S) : trFunc D (tyFn D) Tryz.f129 = some (lf129 D) := by kernel_rfl
noncomputable def lf130 (D : Dom I S) : LFunc I S := ⟨12, [.cell 2 true 3], .seq (.region [
 (on 1 (.a (.box (.tmp 0)))), (on 2 (.a (.box (.const (.agg [(vi D 0), .nils, .nils])))))]) (.seq (.region [
 (on 3 (.p (.fieldAddr 1 (.tmp 1)))), (on 4 (.r (.load false 1 (.tmp 3)))), (on 6 (.p (.fieldAddr 2 (.tmp 1)))), (on 7 (.r (.load false 1 (.tmp 6)))), ⟨⟨some 5, none, .call (.const (.func 194 [] [])) [(.tmp 4)]⟩, [⟨some 7, none, .r (.load false 1 (.tmp 6))⟩]⟩, (on 9 (.p (.fieldAddr 1 (.tmp 1)))), (on 8 (.call (.const (.func 194 [] [])) [(.tmp 7)])), ⟨⟨none, none, .e (.store 1 (.tmp 9) (.tmp 5))⟩, []⟩, (on 10 (.p (.fieldAddr 2 (.tmp 1)))), ⟨⟨none, none, .e (.store 1 (.tmp 10) (.tmp 8))⟩, []⟩]) (.seq (.region [
 (on 11 (.r (.load true 3 (.tmp 1)))), ⟨⟨none, none, .e (.store 3 (.tmp 2) (.tmp 11))⟩, []⟩]) (.ret)))⟩
theorem lf130_eq (D : Dom I S) : trFunc D (tyFn D) Tryz.f130 = some (lf130 D) := by kernel_rfl
noncomputable def lf131 (D : Dom I S) : LFunc I S := ⟨4, [.tmp 0], .seq (.region [
 (on 0 (.p (.move (.const .nilp))))]) (.seq (.region [
 (on 1 (.a (.mkmap))), (on 2 (.p (.build [.nilp, (vi D 0), .nilm] [(2, 1, (.tmp 1))]))), (on 3 (.a (.box (.tmp 2)))), (mv 0 3)]) (.ret))⟩
theorem lf131_eq (D : Dom I S) : trFunc D (tyFn D) Tryz.f131 = some (lf131 D) := by kernel_rfl
noncomputable def lf132 (D : Dom I S) : LFunc I S := ⟨26, [.tmp 4], .seq (.region [
 (on 4 (.p (.move (.const .nils))))]) (.seq (.seq (.region [
 (mv 5 0), (mv 6 1), (on 7 (.p (.nilchk (.tmp 6)))), (on 8 (.p (.fieldAddr 1 (.tmp 7)))), (on 9 (.r (.load true 2 (.tmp 8)))), (on 10 (.call (.const (.func 195 [] [])) [(.tmp 5), (.tmp 9)])), (on 11 (.p (.bin .geq (.tmp 10) (ci D 0))))]) (.cond (.tmp 11) (.seq (.region [
 (mv 12 0), (mv 4 12)]) (.ret)) (.skip))) (.seq (.region [
 (mv 13 0), (mv 14 1), (on 15 (.p (.nilchk (.tmp 14)))), (on 16 (.p (.fieldAddr 1 (.tmp 15)))), (on 17 (.r (.load true 2 (.tmp 16)))), (mv 18 1), (on 19 (.p (.nilchk (.tmp 18)))), (on 20 (.p (.fieldAddr 8 (.tmp 19)))), (on 21 (.r (.load false 1 (.tmp 20)))), ⟨⟨some 22, none, .call (.const (.func 143 [] [])) [(.tmp 21)]⟩, [⟨some 17, none, .r (.load true 2 (.tmp 16))⟩]⟩, (on 23 (.p (.build [(vi D 0), (vi D 0), .nils] [(0, 2, (.tmp 17)), (2, 1, (.tmp 22))]))), (on 24 (.a (.bslice [(vi D 0), (vi D 0), .nils] 1 3 [(0, (.tmp 23))]))), (on 25 (.e (.append 3 40 (.tmp 13) (.tmp 24)))), (mv 4 25)]) (.ret)))⟩
theorem lf132_eq (D : Dom I S) : trFunc D (tyFn D) Tryz.f132 = some (lf132 D) := by kernel_rfl
noncomputable def lf133 (D : Dom I S) : LFunc I S := ⟨8, [.tmp 4], .seq (.region [
 (on 3 (.a (.box (.tmp 1)))), (on 4 (.p (.move (.const (.bool false)))))]) (.seq (.region [
 (mv 5 0), (on 6 (.p (.mkfunc 196 [] [(.tmp 3)]))), (on 7 (.call (.const (.func 146 [] [])) [(.tmp 5), (.tmp 6)])), (mv 4 7)]) (.ret))⟩
theorem lf133_eq (D : Dom I S) : trFunc D (tyFn D) Tryz.f133 = some (lf133 D) := by kernel_rfl
noncomputable def lf134 (D : Dom I S) : LFunc I S := ⟨127, [], .seq (.region [
 (mv 7 1), (on 8 (.p (.nilchk (.tmp 7)))), (on 9 (.p (.fieldAddr 1 (.tmp 8)))), (on 10 (.r (.load true 2 (.tmp 9)))), (mv 11 1), (on 12 (.p (.nilchk (.tmp 11)))), (on 13 (.p (.fieldAddr 4 (.tmp 12)))), (on 14 (.r (.load false 1 (.tmp 13)))), (on 15 (.p (.build [(vi D 0), (vi D 0), (.bool false)] [(0, 2, (.tmp 10)), (2, 1, (.tmp 14))]))), (on 4 (.a (.box (.const (.agg [(vi D 0), (vi D 0), (.bool false)]))))), ⟨⟨none, none, .e (.store 3 (.tmp 4) (.tmp 15))⟩, []⟩]) (.seq (.seq (.region [
 (mv 16 0), (on 17 (.p (.nilchk (.tmp 16)))), (on 18 (.p (.fieldAddr 1 (.tmp 17)))), (on 19 (.p (.fieldAddr 8 (.tmp 18)))), (on 20 (.r (.load false 1 (.tmp 19)))), (mv 21 1), (on 22 (.p (.nilchk (.tmp 21)))), (on 23 (.p (.fieldAddr 1 (.tmp 22)))), (on 24 (.r (.load true 2 (.tmp 23)))), (on 25 (.call (.const (.func 133 [] [])) [(.tmp 20), (.tmp 24)]))]) (.cond (.tmp 25) (.ret) (.skip))) (.seq (.region [
 (mv 26 0), (mv 27 0), (on 28 (.p (.nilchk (.tmp 27)))), (on 29 (.p (.fieldAddr 1 (.tmp 28)))), (on 30 (.p (.fieldAddr 8 (.tmp 29)))), (on 31 (.r (.load false 1 (.tmp 30)))), (on 32 (.r (.load true 3 (.tmp 4)))), (on 33 (.a (.bslice [(vi D 0), (vi D 0), (.bool false)] 1 3 [(0, (.tmp 32))]))), (on 34 (.e (.append 3 24 (.tmp 31) (.tmp 33)))), (on 35 (.p (.nilchk (.tmp 26)))), (on 36 (.p (.fieldAddr 1 (.tmp 35)))), (on 37 (.p (.fieldAddr 8 (.tmp 36)))), ⟨⟨none, none, .e (.store 1 (.tmp 37) (.tmp 34))⟩, []⟩]) (.seq (.seq (.region [
 (mv 38 0), (on 39 (.p (.nilchk (.tmp 38)))), (on 40 (.p (.fieldAddr 1 (.tmp 39)))), (on 41 (.p (.fieldAddr 6 (.tmp 40)))), (on 42 (.r (.load false 1 (.tmp 41)))), (mv 43 1), (on 44 (.p (.nilchk (.tmp 43)))), (on 45 (.p (.fieldAddr 1 (.tmp 44)))), (on 46 (.r (.load true 2 (.tmp 45)))), (on 47 (.call (.const (.func 195 [] [])) [(.tmp 42), (.tmp 46)])), (mv 5 47)]) (.seq (.region [
 (mv 48 5), (on 49 (.p (.bin .geq (.tmp 48) (ci D 0))))]) (.cond (.tmp 49) (.seq (.region [
 (mv 50 0), (mv 51 0), (on 52 (.p (.nilchk (.tmp 51)))), (on 53 (.p (.fieldAddr 1 (.tmp 52)))), (on 54 (.p (.fieldAddr 6 (.tmp 53)))), (on 55 (.r (.load false 1 (.tmp 54)))), (mv 56 5), (mv 57 5), (on 58 (.p (.bin .add (.tmp 57) (ci D 1)))), (on 59 (.call (.const (.func 197 [] [])) [(.tmp 55), (.tmp 56), (.tmp 58)])), (on 60 (.p (.nilchk (.tmp 50)))), (on 61 (.p (.fieldAddr 1 (.tmp 60)))), (on 62 (.p (.fieldAddr 6 (.tmp 61)))), ⟨⟨none, none, .e (.store 1 (.tmp 62) (.tmp 59))⟩, []⟩]) (.region [(mv 63 0), (mv 64 0), (on 65 (.p (.nilchk (.tmp 64)))), (on 66 (.p (.fieldAddr 1 (.tmp 65)))), (on 67 (.p (.fieldAddr 7 (.tmp 66)))), (on 68 (.r (.load false 1 (.tmp 67)))), (on 69 (.r (.load true 3 (.tmp 4)))), (on 70 (.a (.bslice [(vi D 0), (vi D 0), (.bool false)] 1 3 [(0, (.tmp 69))]))), (on 71 (.e (.append 3 24 (.tmp 68) (.tmp 70)))), (on 72 (.p (.nilchk (.tmp 63)))), (on 73 (.p (.fieldAddr 1 (.tmp 72)))), (on 74 (.p (.fieldAddr 7 (.tmp 73)))), ⟨⟨none, none, .e (.store 1 (.tmp 74) (.tmp 71))⟩, []⟩])) (.skip)))) (.seq (.region [
 (mv 75 0), (on 76 (.p (.nilchk (.tmp 75)))), (on 77 (.p (.fieldAddr 1 (.tmp 76)))), (on 78 (.p (.fieldAddr 5 (.tmp 77)))), (on 79 (.r (.load false 1 (.tmp 78)))), (mv 80 1), (on 81 (.p (.nilchk (.tmp 80)))), (on 82 (.p (.fieldAddr 1 (.tmp 81)))), (on 83 (.r (.load true 2 (.tmp 82)))), (on 84 (.call (.const (.func 195 [] [])) [(.tmp 79), (.tmp 83)])), (mv 6 84)]) (.seq (.region [
 (mv 85 6), (on 86 (.p (.bin .geq (.tmp 85) (ci D 0))))]) (.cond (.tmp 86) (.seq (.seq (.region [
 (mv 87 1), (on 88 (.p (.nilchk (.tmp 87)))), (on 89 (.p (.fieldAddr 4 (.tmp 88)))), (on 90 (.r (.load false 1 (.tmp 89))))]) (.cond (.tmp 90) (.seq (.region [
 (mv 91 0), (on 92 (.p (.nilchk (.tmp 91)))), (on 93 (.p (.fieldAddr 11 (.tmp 92)))), (on 94 (.r (.load false 1 (.tmp 93)))), (mv 95 0), (on 96 (.p (.nilchk (.tmp 95)))), (on 97 (.p (.fieldAddr 1 (.tmp 96)))), (on 98 (.p (.fieldAddr 5 (.tmp 97)))), (on 99 (.r (.load false 1 (.tmp 98)))), (mv 100 6), (on 101 (.p (.idxSl 3 (.tmp 99) (.tmp 100)))), (on 102 (.p (.fieldAddr 2 (.tmp 101)))), (on 103 (.r (.load false 1 (.tmp 102)))), (on 104 (.call (.const (.func 138 [] [])) [(.tmp 94), (.tmp 103)]))]) (.region [(mv 105 0), (on 106 (.p (.nilchk (.tmp 105)))), (on 107 (.p (.fieldAddr 1 (.tmp 106)))), (on 108 (.p (.fieldAddr 4 (.tmp 107)))), (on 109 (.r (.load false 1 (.tmp 108)))), (on 110 (.p (.bin .add (.tmp 109) (ci D 1)))), (on 111 (.p (.nilchk (.tmp 105)))), (on 112 (.p (.fieldAddr 1 (.tmp 111)))), (on 113 (.p (.fieldAddr 4 (.tmp 112)))), ⟨⟨none, none, .e (.store 1 (.tmp 113) (.tmp 110))⟩, []⟩])) (.skip))) (.region [(mv 114 0), (mv 115 0), (on 116 (.p (.nilchk (.tmp 115)))), (on 117 (.p (.fieldAddr 1 (.tmp 116)))), (on 118 (.p (.fieldAddr 5 (.tmp 117)))), (on 119 (.r (.load false 1 (.tmp 118)))), (mv 120 6), (mv 121 6), (on 122 (.p (.bin .add (.tmp 121) (ci D 1)))), (on 123 (.call (.const (.func 197 [] [])) [(.tmp 119), (.tmp 120), (.tmp 122)])), (on 124 (.p (.nilchk (.tmp 114)))), (on 125 (.p (.fieldAddr 1 (.tmp 124)))), (on 126 (.p (.fieldAddr 5 (.tmp 125)))), ⟨⟨none, none, .e (.store 1 (.tmp 126) (.tmp 123))⟩, []⟩])) (.skip)))))))⟩
theorem lf134_eq (D : Dom I S) : trFunc D (tyFn D) Tryz.f134 = some (lf134 D) := by kernel_rfl
noncomputable def lf135 (D : Dom I S) : LFunc I S := ⟨42, [.tmp 4], .seq (.region [
 (on 4 (.p (.move (.const .nils))))]) (.seq (.region [
 (mv 8 0), (mv 9 1), (on 10 (.call (.const (.func 198 [] [])) [(.tmp 8), (.tmp 9)])), (mv 5 10)]) (.seq (.seq (.region [
 (mv 11 5), (on 12 (.p (.bin .eql (.tmp 11) (.const (.int .i64 (D.ofInt (.negSucc 0)))))))]) (.cond (.tmp 12) (.seq (.region [
 (mv 13 0), (mv 4 13)]) (.ret)) (.skip))) (.seq (.seq (.region [
 (mv 14 5), (on 15 (.p (.bin .add (.tmp 14) (ci D 1)))), (mv 6 15)]) (.block 0 (.loop (.seq (.seq (.region [
 (mv 16 6), (mv 17 0), (on 18 (.p (.len (.tmp 17)))), (on 19 (.p (.bin .lss (.tmp 16) (.tmp 18))))]) (.cond (.tmp 19) (.skip) (.exit 0))) (.seq (.block 1 (.seq (.region [
 (mv 22 0), (mv 23 6), (on 24 (.p (.idxSl 3 (.tmp 22) (.tmp 23)))), (on 25 (.r (.load true 3 (.tmp 24)))), (on 7 (.a (.box (.const (.agg [(vi D 0), (vi D 0), (.bool false)]))))), ⟨⟨none, none, .e (.store 3 (.tmp 7) (.tmp 25))⟩, []⟩]) (.seq (.region [
 (mv 26 1), (on 27 (.r (.load true 3 (.tmp 7)))), (on 28 (.call (.tmp 26) [(.tmp 27)])), (on 29 (.p (.un .not (.tmp 28))))]) (.cond (.tmp 29) (.seq (.region [
 (mv 30 0), (mv 31 5), (on 32 (.r (.load true 3 (.tmp 7)))), (on 33 (.p (.idxSl 3 (.tmp 30) (.tmp 31)))), ⟨⟨none, none, .e (.store 3 (.tmp 33) (.tmp 32))⟩, []⟩]) (.region [(mv 34 5), (on 35 (.p (.bin .add (.tmp 34) (ci D 1)))), (mv 5 35)])) (.skip))))) (.region [(mv 20 6), (on 21 (.p (.bin .add (.tmp 20) (ci D 1)))), (mv 6 21)])))))) (.seq (.region [
 (mv 36 0), (mv 37 5), (on 38 (.p (.slSl 3 (.tmp 36) (some (.tmp 37)) none none))), ⟨⟨none, none, .e (.clear [(vi D 0), (vi D 0), (.bool false)] (.tmp 38))⟩, []⟩]) (.seq (.region [
 (mv 39 0), (mv 40 5), (on 41 (.p (.slSl 3 (.tmp 39) none (some (.tmp 40)) none))), (mv 4 41)]) (.ret))))))⟩
theorem lf135_eq (D : Dom I S) : trFunc D (tyFn D) Tryz.f135 = some (lf135 D) := by kernel_rfl
noncomputable def lf136 (D : Dom I S) : LFunc I S := ⟨11, [.tmp 3], .seq (.region [
 (on 2 (.a (.box (.tmp 0)))), (on 3 (.p (.move (.const (.bool false)))))]) (.seq (.region [
 (on 4 (.p (.fieldAddr 0 (.tmp 2)))), (on 5 (.r (.load true 2 (.tmp 4)))), (on 6 (.r (.load false 1 (.tmp 1)))), (on 7 (.p (.nilchk (.tmp 6)))), (on 8 (.p (.fieldAddr 1 (.tmp 7)))), (on 9 (.r (.load true 2 (.tmp 8)))), (on 10 (.p (.eqAgg false 2 (.tmp 5) (.tmp 9)))), (mv 3 10)]) (.ret))⟩
theorem lf136_eq (D : Dom I S) : trFunc D (tyFn D) Tryz.f136 = some (lf136 D) := by kernel_rfl
end
end Go.Proofs.YtohmaikcmaapjaaGreat.LI
