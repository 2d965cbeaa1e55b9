/- Functions of the program as the interpreter reads them, each tied to the program: written by a program. -/
import Derived.Test.YtohmaikcmaapjaaGreatNBF0
namespace Go.Proofs.YtohmaikcmaapjaaGreat.LI
open Go.Proofs
set_option maxRecDepth 100000
section
variable {I S : Type}
noncomputable def lf137 (D : Dom I S) : LFunc I S := ⟨67, [.tmp 2], .seq (.region [
 (on 1 (.a (.box (.tmp 0)))), (on 2 (.p (.move (.const (.bool false)))))]) (.seq (.seq (.region [
 (on 3 (.p (.fieldAddr 0 (.tmp 1)))), (on 4 (.r (.load false 1 (.tmp 3)))), (on 5 (.p (.bin .lss (.tmp 4) (ci D 1)))), (mv 6 5), ⟨⟨some 7, some (some 6, false), .p (.fieldAddr 0 (.tmp 1))⟩, []⟩,
 ⟨⟨some 8, some (some 6, false), .r (.load false 1 (.tmp 7))⟩, []⟩,
 ⟨⟨some 9, some (some 6, false), .p (.bin .gtr (.tmp 8) (ci D 65535))⟩, []⟩, (on 10 (.p (.pick (.tmp 6) (.const (.bool true)) (.tmp 9)))), (mv 11 10), ⟨⟨some 12, some (some 11, false), .p (.fieldAddr 2 (.tmp 1))⟩, []⟩,
 ⟨⟨some 13, some (some 11, false), .r (.load false 1 (.tmp 12))⟩, []⟩,
 ⟨⟨some 14, some (some 11, false), .p (.len (.tmp 13))⟩, []⟩,
 ⟨⟨some 15, some (some 11, false), .p (.bin .lss (.tmp 14) (ci D 1))⟩, []⟩, (on 16 (.p (.pick (.tmp 11) (.const (.bool true)) (.tmp 15)))), (mv 17 16), ⟨⟨some 18, some (some 17, false), .p (.fieldAddr 2 (.tmp 1))⟩, []⟩,
 ⟨⟨some 19, some (some 17, false), .r (.load false 1 (.tmp 18))⟩, []⟩,
 ⟨⟨some 20, some (some 17, false), .p (.len (.tmp 19))⟩, []⟩,
 ⟨⟨some 21, some (some 17, false), .p (.bin .gtr (.tmp 20) (ci D 4))⟩, []⟩, (on 22 (.p (.pick (.tmp 17) (.const (.bool true)) (.tmp 21))))]) (.cond (.tmp 22) (.seq (.region [
 (on 2 (.p (.move (.const (.bool false)))))]) (.ret)) (.skip))) (.seq (.seq (.region [
 (on 23 (.p (.fieldAddr 1 (.tmp 1)))), (on 24 (.r (.load false 1 (.tmp 23))))]) (.block 0 (.seq (.region [
 (on 26 (.p (.bin .eql (.tmp 24) (ci D 0)))), (mv 25 26)]) (.cond (.tmp 25) (.seq (.region [
 (on 27 (.p (.fieldAddr 2 (.tmp 1)))), (on 28 (.r (.load false 1 (.tmp 27)))), (on 29 (.p (.len (.tmp 28)))), (on 30 (.p (.bin .eql (.tmp 29) (ci D 1)))), (mv 31 30), ⟨⟨some 32, some (some 31, true), .p (.fieldAddr 2 (.tmp 1))⟩, []⟩,
 ⟨⟨some 33, some (some 31, true), .r (.load false 1 (.tmp 32))⟩, []⟩,
 ⟨⟨some 34, some (some 31, true), .p (.idxSl 1 (.tmp 33) (ci D 0))⟩, []⟩,
 ⟨⟨some 35, some (some 31, true), .r (.load false 1 (.tmp 34))⟩, []⟩,
 ⟨⟨some 36, some (some 31, true), .p (.len (.tmp 35))⟩, []⟩,
 ⟨⟨some 37, some (some 31, true), .p (.bin .eql (.tmp 36) (ci D 1))⟩, []⟩, (on 38 (.p (.pick (.tmp 31) (.tmp 37) (.const (.bool false))))), (mv 39 38), ⟨⟨some 40, some (some 39, true), .p (.fieldAddr 2 (.tmp 1))⟩, []⟩,
 ⟨⟨some 41, some (some 39, true), .r (.load false 1 (.tmp 40))⟩, []⟩,
 ⟨⟨some 42, some (some 39, true), .p (.idxSl 1 (.tmp 41) (ci D 0))⟩, []⟩,
 ⟨⟨some 43, some (some 39, true), .r (.load false 1 (.tmp 42))⟩, []⟩,
 ⟨⟨some 44, some (some 39, true), .p (.idxSl 2 (.tmp 43) (ci D 0))⟩, []⟩,
 ⟨⟨some 45, some (some 39, true), .r (.load true 2 (.tmp 44))⟩, []⟩,
 ⟨⟨some 46, some (some 39, true), .call (.const (.func 176 [] [])) [(.tmp 45)]⟩, []⟩, (on 47 (.p (.pick (.tmp 39) (.tmp 46) (.const (.bool false))))), (mv 2 47)]) (.ret)) (.seq (.region [
 (on 49 (.p (.bin .eql (.tmp 24) (ci D 1)))), (mv 48 49)]) (.cond (.tmp 48) (.seq (.region [
 (on 50 (.p (.fieldAddr 2 (.tmp 1)))), (on 51 (.r (.load false 1 (.tmp 50)))), (on 52 (.p (.len (.tmp 51)))), (on 53 (.p (.bin .eql (.tmp 52) (ci D 1)))), (mv 54 53), ⟨⟨some 55, some (some 54, true), .p (.fieldAddr 2 (.tmp 1))⟩, []⟩,
 ⟨⟨some 56, some (some 54, true), .r (.load false 1 (.tmp 55))⟩, []⟩,
 ⟨⟨some 57, some (some 54, true), .p (.idxSl 1 (.tmp 56) (ci D 0))⟩, []⟩,
 ⟨⟨some 58, some (some 54, true), .r (.load false 1 (.tmp 57))⟩, []⟩,
 ⟨⟨some 59, some (some 54, true), .call (.const (.func 199 [] [])) [(.tmp 58), (ci D 2), (.const (.bool false))]⟩, []⟩, (on 60 (.p (.pick (.tmp 54) (.tmp 59) (.const (.bool false))))), (mv 2 60)]) (.ret)) (.seq (.region [
 (on 62 (.p (.bin .eql (.tmp 24) (ci D 2)))), (mv 61 62)]) (.cond (.tmp 61) (.seq (.region [
 (on 63 (.p (.fieldAddr 2 (.tmp 1)))), (on 64 (.r (.load false 1 (.tmp 63)))), (on 65 (.call (.const (.func 200 [] [])) [(.tmp 64), (.const (.func 201 [] []))])), (on 66 (.p (.un .not (.tmp 65)))), (mv 2 66)]) (.ret)) (.skip))))))))) (.seq (.region [
 (on 2 (.p (.move (.const (.bool false)))))]) (.ret))))⟩
theorem lf137_eq (D : Dom I S) : trFunc D (tyFn D) Tryz.f137 = some (lf137 D) := by kernel_rfl
noncomputable def lf138 (D : Dom I S) : LFunc I S := ⟨43, [.tmp 4], .seq (.region [
 (on 4 (.p (.move (ci D 0))))]) (.seq (.block 0 (.seq (.region [
 (mv 8 0), (on 9 (.r (.eqRef .ptr false (.tmp 8) (.const .nilp)))), (mv 7 9)]) (.cond (.tmp 7) (.seq (.region [
 (on 4 (.p (.move (ci D 1))))]) (.ret)) (.seq (.region [
 (mv 11 1), (mv 12 0), (on 13 (.p (.nilchk (.tmp 12)))), (on 14 (.p (.fieldAddr 1 (.tmp 13)))), (on 15 (.r (.load false 1 (.tmp 14)))), (on 16 (.call (.const (.func 71 [] [])) [(.tmp 11), (.tmp 15)])), (on 17 (.p (.un .not (.tmp 16)))), (mv 10 17)]) (.cond (.tmp 10) (.seq (.region [
 (on 4 (.p (.move (ci D 1400))))]) (.ret)) (.skip)))))) (.seq (.seq (.region [
 (mv 18 1), (on 19 (.p (.len (.tmp 18)))), (on 20 (.p (.move (ci D 0))))]) (.block 1 (.loop (.seq (.region [
 (on 21 (.p (.bin .lss (.tmp 20) (.tmp 19))))]) (.seq (.cond (.tmp 21) (.skip) (.exit 1)) (.seq (.block 2 (.seq (.region [
 (on 22 (.p (.idxSl 8 (.tmp 18) (.tmp 20)))), (on 23 (.r (.load true 8 (.tmp 22)))), (on 6 (.a (.box (.const (.agg [(vi D 0), (vi D 0), (vi D 0), .nils, (vi D 0), (vi D 0), .nils, .nils]))))), ⟨⟨none, none, .e (.store 8 (.tmp 6) (.tmp 23))⟩, []⟩]) (.seq (.region [
 (on 24 (.p (.fieldAddr 0 (.tmp 6)))), (on 25 (.r (.load false 1 (.tmp 24))))]) (.block 3 (.seq (.region [
 (on 31 (.p (.bin .eql (.tmp 25) (ci D 0)))), (mv 30 31)]) (.cond (.tmp 30) (.region [(mv 32 0), (on 33 (.p (.fieldAddr 1 (.tmp 6)))), (on 34 (.r (.load true 3 (.tmp 33)))), (on 35 (.call (.const (.func 202 [] [])) [(.tmp 32), (.tmp 34)]))]) (.seq (.region [
 (on 37 (.p (.bin .eql (.tmp 25) (ci D 1)))), (mv 36 37)]) (.cond (.tmp 36) (.region [(mv 38 0), (on 39 (.p (.fieldAddr 4 (.tmp 6)))), (on 40 (.r (.load false 1 (.tmp 39)))), (on 41 (.call (.const (.func 203 [] [])) [(.tmp 38), (.tmp 40)]))]) (.region [(mv 26 0), (on 27 (.p (.fieldAddr 5 (.tmp 6)))), (on 28 (.r (.load true 3 (.tmp 27)))), (on 29 (.call (.const (.func 204 [] [])) [(.tmp 26), (.tmp 28)]))]))))))))) (.region [(on 42 (.p (.bin .add (.tmp 20) (ci D 1)))), (mv 20 42)]))))))) (.seq (.region [
 (on 4 (.p (.move (ci D 0))))]) (.ret))))⟩
theorem lf138_eq (D : Dom I S) : trFunc D (tyFn D) Tryz.f138 = some (lf138 D) := by kernel_rfl
noncomputable def lf139 (D : Dom I S) : LFunc I S := ⟨76, [.tmp 4], .seq (.region [
 (on 4 (.p (.move (.const (.bool false)))))]) (.seq (.seq (.region [
 (mv 5 0), (on 6 (.p (.nilchk (.tmp 5)))), (on 7 (.p (.fieldAddr 0 (.tmp 6)))), (on 8 (.r (.load false 1 (.tmp 7))))]) (.block 0 (.seq (.region [
 (on 10 (.p (.bin .eql (.tmp 8) (ci D 0)))), (mv 9 10)]) (.cond (.tmp 9) (.seq (.region [
 (mv 11 0), (on 12 (.p (.nilchk (.tmp 11)))), (on 13 (.p (.fieldAddr 1 (.tmp 12)))), (on 14 (.r (.load true 3 (.tmp 13)))), (on 15 (.call (.const (.func 137 [] [])) [(.tmp 14)])), (mv 16 15), ⟨⟨some 17, some (some 16, true), .p (.move (.tmp 0))⟩, []⟩,
 ⟨⟨some 18, some (some 16, true), .p (.nilchk (.tmp 17))⟩, []⟩,
 ⟨⟨some 19, some (some 16, true), .p (.fieldAddr 4 (.tmp 18))⟩, []⟩,
 ⟨⟨some 20, some (some 16, true), .r (.load false 1 (.tmp 19))⟩, []⟩,
 ⟨⟨some 21, some (some 16, true), .p (.bin .eql (.tmp 20) (ci D 0))⟩, []⟩, (on 22 (.p (.pick (.tmp 16) (.tmp 21) (.const (.bool false))))), (mv 23 22), ⟨⟨some 24, some (some 23, true), .p (.move (.tmp 0))⟩, []⟩,
 ⟨⟨some 25, some (some 23, true), .p (.nilchk (.tmp 24))⟩, []⟩,
 ⟨⟨some 26, some (some 23, true), .p (.fieldAddr 5 (.tmp 25))⟩, []⟩,
 ⟨⟨some 27, some (some 23, true), .call (.const (.func 192 [] [])) [(.tmp 26)]⟩, []⟩, (on 28 (.p (.pick (.tmp 23) (.tmp 27) (.const (.bool false))))), (mv 4 28)]) (.ret)) (.seq (.region [
 (on 30 (.p (.bin .eql (.tmp 8) (ci D 1)))), (mv 29 30)]) (.cond (.tmp 29) (.seq (.region [
 (mv 31 0), (on 32 (.p (.nilchk (.tmp 31)))), (on 33 (.p (.fieldAddr 4 (.tmp 32)))), (on 34 (.r (.load false 1 (.tmp 33)))), (on 35 (.p (.bin .geq (.tmp 34) (ci D 1)))), (mv 36 35), ⟨⟨some 37, some (some 36, true), .p (.move (.tmp 0))⟩, []⟩,
 ⟨⟨some 38, some (some 36, true), .p (.nilchk (.tmp 37))⟩, []⟩,
 ⟨⟨some 39, some (some 36, true), .p (.fieldAddr 4 (.tmp 38))⟩, []⟩,
 ⟨⟨some 40, some (some 36, true), .r (.load false 1 (.tmp 39))⟩, []⟩,
 ⟨⟨some 41, some (some 36, true), .p (.bin .leq (.tmp 40) (ci D 65535))⟩, []⟩, (on 42 (.p (.pick (.tmp 36) (.tmp 41) (.const (.bool false))))), (mv 43 42), ⟨⟨some 44, some (some 43, true), .p (.move (.tmp 0))⟩, []⟩,
 ⟨⟨some 45, some (some 43, true), .p (.nilchk (.tmp 44))⟩, []⟩,
 ⟨⟨some 46, some (some 43, true), .p (.fieldAddr 1 (.tmp 45))⟩, []⟩,
 ⟨⟨some 47, some (some 43, true), .call (.const (.func 205 [] [])) [(.tmp 46)]⟩, []⟩, (on 48 (.p (.pick (.tmp 43) (.tmp 47) (.const (.bool false))))), (mv 49 48), ⟨⟨some 50, some (some 49, true), .p (.move (.tmp 0))⟩, []⟩,
 ⟨⟨some 51, some (some 49, true), .p (.nilchk (.tmp 50))⟩, []⟩,
 ⟨⟨some 52, some (some 49, true), .p (.fieldAddr 5 (.tmp 51))⟩, []⟩,
 ⟨⟨some 53, some (some 49, true), .call (.const (.func 192 [] [])) [(.tmp 52)]⟩, []⟩, (on 54 (.p (.pick (.tmp 49) (.tmp 53) (.const (.bool false))))), (mv 4 54)]) (.ret)) (.seq (.region [
 (on 56 (.p (.bin .eql (.tmp 8) (ci D 2)))), (mv 55 56)]) (.cond (.tmp 55) (.seq (.region [
 (mv 57 0), (on 58 (.p (.nilchk (.tmp 57)))), (on 59 (.p (.fieldAddr 5 (.tmp 58)))), (on 60 (.r (.load true 3 (.tmp 59)))), (mv 61 1), (on 62 (.call (.const (.func 129 [] [])) [(.tmp 60), (.tmp 61)])), (mv 63 62), ⟨⟨some 64, some (some 63, true), .p (.move (.tmp 0))⟩, []⟩,
 ⟨⟨some 65, some (some 63, true), .p (.nilchk (.tmp 64))⟩, []⟩,
 ⟨⟨some 66, some (some 63, true), .p (.fieldAddr 4 (.tmp 65))⟩, []⟩,
 ⟨⟨some 67, some (some 63, true), .r (.load false 1 (.tmp 66))⟩, []⟩,
 ⟨⟨some 68, some (some 63, true), .p (.bin .eql (.tmp 67) (ci D 0))⟩, []⟩, (on 69 (.p (.pick (.tmp 63) (.tmp 68) (.const (.bool false))))), (mv 70 69), ⟨⟨some 71, some (some 70, true), .p (.move (.tmp 0))⟩, []⟩,
 ⟨⟨some 72, some (some 70, true), .p (.nilchk (.tmp 71))⟩, []⟩,
 ⟨⟨some 73, some (some 70, true), .p (.fieldAddr 1 (.tmp 72))⟩, []⟩,
 ⟨⟨some 74, some (some 70, true), .call (.const (.func 205 [] [])) [(.tmp 73)]⟩, []⟩, (on 75 (.p (.pick (.tmp 70) (.tmp 74) (.const (.bool false))))), (mv 4 75)]) (.ret)) (.skip))))))))) (.seq (.region [
 (on 4 (.p (.move (.const (.bool false)))))]) (.ret)))⟩
theorem lf139_eq (D : Dom I S) : trFunc D (tyFn D) Tryz.f139 = some (lf139 D) := by kernel_rfl
noncomputable def lf140 (D : Dom I S) : LFunc I S := ⟨17, [.tmp 2], .seq (.region [
 (on 2 (.p (.move (ci D 0))))]) (.seq (.seq (.region [
 (mv 3 0), (on 4 (.p (.nilchk (.tmp 3)))), (on 5 (.p (.fieldAddr 0 (.tmp 4)))), (on 6 (.r (.load false 1 (.tmp 5)))), (on 7 (.p (.bin .eql (.tmp 6) (ci D 0))))]) (.cond (.tmp 7) (.seq (.region [
 (mv 8 0), (on 9 (.p (.nilchk (.tmp 8)))), (on 10 (.p (.fieldAddr 1 (.tmp 9)))), (on 11 (.p (.fieldAddr 0 (.tmp 10)))), (on 12 (.r (.load false 1 (.tmp 11)))), (mv 2 12)]) (.ret)) (.skip))) (.seq (.region [
 (mv 13 0), (on 14 (.p (.nilchk (.tmp 13)))), (on 15 (.p (.fieldAddr 4 (.tmp 14)))), (on 16 (.r (.load false 1 (.tmp 15)))), (mv 2 16)]) (.ret)))⟩
theorem lf140_eq (D : Dom I S) : trFunc D (tyFn D) Tryz.f140 = some (lf140 D) := by kernel_rfl
noncomputable def lf141 (D : Dom I S) : LFunc I S := ⟨34, [.tmp 2, .tmp 3], .seq (.region [
 (on 2 (.p (.move (.const .nils)))), (on 3 (.p (.move (.const (.bool false)))))]) (.seq (.region [
 (on 4 (.p (.move (.const .nils))))]) (.seq (.seq (.region [
 (mv 7 0), (on 8 (.p (.len (.tmp 7)))), (on 9 (.p (.move (ci D 0))))]) (.block 0 (.loop (.seq (.region [
 (on 10 (.p (.bin .lss (.tmp 9) (.tmp 8))))]) (.seq (.cond (.tmp 10) (.skip) (.exit 0)) (.seq (.block 1 (.seq (.region [
 (mv 11 9), (mv 5 11)]) (.seq (.region [
 (mv 12 0), (mv 13 5), (on 14 (.p (.idxSl 8 (.tmp 12) (.tmp 13)))), (on 15 (.call (.const (.func 140 [] [])) [(.tmp 14)])), (mv 6 15)]) (.seq (.region [
 (mv 16 6), (on 17 (.p (.bin .gtr (.tmp 16) (ci D 0))))]) (.cond (.tmp 17) (.region [(mv 18 4), (mv 19 6), (on 20 (.a (.bslice [(vi D 0)] 1 1 [(0, (.tmp 19))]))), (on 21 (.e (.append 1 8 (.tmp 18) (.tmp 20)))), (mv 4 21)]) (.skip)))))) (.region [(on 22 (.p (.bin .add (.tmp 9) (ci D 1)))), (mv 9 22)]))))))) (.seq (.region [
 (mv 23 4), (mv 24 0), (on 25 (.p (.len (.tmp 24)))), (on 26 (.p (.bin .gtr (.tmp 25) (ci D 0)))), (mv 27 26), ⟨⟨some 28, some (some 27, true), .p (.move (.tmp 0))⟩, []⟩,
 ⟨⟨some 29, some (some 27, true), .p (.idxSl 8 (.tmp 28) (ci D 0))⟩, []⟩,
 ⟨⟨some 30, some (some 27, true), .p (.fieldAddr 0 (.tmp 29))⟩, []⟩,
 ⟨⟨some 31, some (some 27, true), .r (.load false 1 (.tmp 30))⟩, []⟩,
 ⟨⟨some 32, some (some 27, true), .p (.bin .eql (.tmp 31) (ci D 2))⟩, []⟩, (on 33 (.p (.pick (.tmp 27) (.tmp 32) (.const (.bool false))))), (mv 2 23), (mv 3 33)]) (.ret))))⟩
theorem lf141_eq (D : Dom I S) : trFunc D (tyFn D) Tryz.f141 = some (lf141 D) := by kernel_rfl
noncomputable def lf142 (D : Dom I S) : LFunc I S := ⟨90, [.tmp 8], .seq (.region [
 (on 5 (.a (.box (.tmp 1)))), (on 8 (.p (.move (.const (.bool false)))))]) (.seq (.seq (.region [
 (mv 15 0), (on 16 (.r (.eqRef .ptr false (.tmp 15) (.const .nilp)))), (mv 17 16), ⟨⟨some 18, some (some 17, false), .p (.move (.tmp 0))⟩, []⟩,
 ⟨⟨some 19, some (some 17, false), .p (.nilchk (.tmp 18))⟩, []⟩,
 ⟨⟨some 20, some (some 17, false), .p (.fieldAddr 2 (.tmp 19))⟩, []⟩,
 ⟨⟨some 21, some (some 17, false), .r (.load false 1 (.tmp 20))⟩, []⟩,
 ⟨⟨some 22, some (some 17, false), .r (.load true 2 (.tmp 5))⟩, []⟩,
 ⟨⟨some 23, some (some 17, false), .call (.const (.func 206 [] [])) [(.tmp 21), (.tmp 22)]⟩, []⟩, (on 24 (.p (.pick (.tmp 17) (.const (.bool true)) (.tmp 23)))), (mv 25 24), ⟨⟨some 26, some (some 25, false), .p (.move (.tmp 0))⟩, []⟩,
 ⟨⟨some 27, some (some 25, false), .p (.nilchk (.tmp 26))⟩, []⟩,
 ⟨⟨some 28, some (some 25, false), .p (.fieldAddr 1 (.tmp 27))⟩, []⟩,
 ⟨⟨some 29, some (some 25, false), .r (.load false 1 (.tmp 28))⟩, []⟩,
 ⟨⟨some 30, some (some 25, false), .r (.lenMap (.tmp 29))⟩, []⟩,
 ⟨⟨some 31, some (some 25, false), .p (.bin .gtr (.tmp 30) (ci D 0))⟩, []⟩, (on 32 (.p (.pick (.tmp 25) (.const (.bool true)) (.tmp 31)))), (mv 33 32), ⟨⟨some 34, some (some 33, false), .p (.move (.tmp 3))⟩, []⟩,
 ⟨⟨some 35, some (some 33, false), .p (.move (.tmp 34))⟩, []⟩,
 ⟨⟨some 36, some (some 35, true), .p (.move (.tmp 0))⟩, []⟩,
 ⟨⟨some 37, some (some 35, true), .p (.nilchk (.tmp 36))⟩, []⟩,
 ⟨⟨some 38, some (some 35, true), .p (.fieldAddr 2 (.tmp 37))⟩, []⟩,
 ⟨⟨some 39, some (some 35, true), .r (.load false 1 (.tmp 38))⟩, []⟩,
 ⟨⟨some 40, some (some 35, true), .p (.len (.tmp 39))⟩, []⟩,
 ⟨⟨some 41, some (some 35, true), .p (.bin .gtr (.tmp 40) (ci D 0))⟩, []⟩,
 ⟨⟨some 42, some (some 33, false), .p (.pick (.tmp 35) (.tmp 41) (.const (.bool false)))⟩, []⟩, (on 43 (.p (.pick (.tmp 33) (.const (.bool true)) (.tmp 42))))]) (.cond (.tmp 43) (.seq (.region [
 (on 8 (.p (.move (.const (.bool false)))))]) (.ret)) (.skip))) (.seq (.seq (.region [
 (mv 44 2), (on 45 (.p (.len (.tmp 44)))), (on 46 (.p (.move (ci D 0))))]) (.block 0 (.loop (.seq (.region [
 (on 47 (.p (.bin .lss (.tmp 46) (.tmp 45))))]) (.seq (.cond (.tmp 47) (.skip) (.exit 0)) (.seq (.block 1 (.seq (.region [
 (on 48 (.p (.idxSl 1 (.tmp 44) (.tmp 46)))), (on 49 (.r (.load false 1 (.tmp 48)))), (mv 10 49)]) (.seq (.region [
 (mv 51 0), (on 52 (.p (.nilchk (.tmp 51)))), (on 53 (.p (.fieldAddr 0 (.tmp 52)))), (on 54 (.r (.load false 1 (.tmp 53)))), (mv 55 10), (on 56 (.r (.lookup 0 (.agg [(vi D 0), (vi D 0)]) true (.tmp 54) (.tmp 55)))), (mv 50 56), (on 57 (.p (.extract 0 (.tmp 50)))), (on 58 (.p (.extract 1 (.tmp 50)))), (on 11 (.a (.box (.const (.agg [(vi D 0), (vi D 0)]))))), ⟨⟨none, none, .e (.store 2 (.tmp 11) (.tmp 57))⟩, []⟩, (mv 12 58)]) (.seq (.region [
 (mv 59 12)]) (.cond (.tmp 59) (.seq (.region [
 (on 8 (.p (.move (.const (.bool false)))))]) (.ret)) (.skip)))))) (.region [(on 60 (.p (.bin .add (.tmp 46) (ci D 1)))), (mv 46 60)]))))))) (.seq (.seq (.region [
 (mv 61 2), (on 62 (.p (.len (.tmp 61)))), (on 63 (.p (.move (ci D 0))))]) (.block 2 (.loop (.seq (.region [
 (on 64 (.p (.bin .lss (.tmp 63) (.tmp 62))))]) (.seq (.cond (.tmp 64) (.skip) (.exit 2)) (.seq (.block 3 (.seq (.region [
 (on 65 (.p (.idxSl 1 (.tmp 61) (.tmp 63)))), (on 66 (.r (.load false 1 (.tmp 65)))), (mv 14 66)]) (.region [(mv 67 0), (on 68 (.p (.nilchk (.tmp 67)))), (on 69 (.p (.fieldAddr 0 (.tmp 68)))), (on 70 (.r (.load false 1 (.tmp 69)))), (mv 71 14), (on 72 (.r (.load true 2 (.tmp 5)))), ⟨⟨none, none, .e (.mapset 0 (.tmp 70) (.tmp 71) (.tmp 72))⟩, []⟩]))) (.region [(on 73 (.p (.bin .add (.tmp 63) (ci D 1)))), (mv 63 73)]))))))) (.seq (.seq (.region [
 (mv 74 3)]) (.cond (.tmp 74) (.region [(mv 75 0), (on 76 (.p (.nilchk (.tmp 75)))), (on 77 (.p (.fieldAddr 1 (.tmp 76)))), (on 78 (.r (.load false 1 (.tmp 77)))), (on 79 (.r (.load true 2 (.tmp 5)))), ⟨⟨none, none, .e (.mapset 2 (.tmp 78) (.tmp 79) (.const (.bool true)))⟩, []⟩]) (.skip))) (.seq (.region [
 (mv 80 0), (mv 81 0), (on 82 (.p (.nilchk (.tmp 81)))), (on 83 (.p (.fieldAddr 2 (.tmp 82)))), (on 84 (.r (.load false 1 (.tmp 83)))), (on 85 (.r (.load true 2 (.tmp 5)))), (on 86 (.a (.bslice [(vi D 0), (vi D 0)] 1 2 [(0, (.tmp 85))]))), (on 87 (.e (.append 2 16 (.tmp 84) (.tmp 86)))), (on 88 (.p (.nilchk (.tmp 80)))), (on 89 (.p (.fieldAddr 2 (.tmp 88)))), ⟨⟨none, none, .e (.store 1 (.tmp 89) (.tmp 87))⟩, []⟩]) (.seq (.region [
 (on 8 (.p (.move (.const (.bool true)))))]) (.ret)))))))⟩
theorem lf142_eq (D : Dom I S) : trFunc D (tyFn D) Tryz.f142 = some (lf142 D) := by kernel_rfl
noncomputable def lf143 (D : Dom I S) : LFunc I S := ⟨40, [.tmp 2], .seq (.region [
 (on 2 (.p (.move (.const .nils))))]) (.seq (.region [
 (mv 5 0), (on 6 (.call (.const (.func 207 [] [])) [(.tmp 5)])), (mv 3 6)]) (.seq (.seq (.region [
 (mv 7 3), (on 8 (.p (.len (.tmp 7)))), (on 9 (.p (.move (ci D 0))))]) (.block 0 (.loop (.seq (.region [
 (on 10 (.p (.bin .lss (.tmp 9) (.tmp 8))))]) (.seq (.cond (.tmp 10) (.skip) (.exit 0)) (.seq (.block 1 (.seq (.region [
 (mv 11 9), (mv 4 11)]) (.seq (.seq (.region [
 (mv 12 3), (mv 13 4), (on 14 (.p (.idxSl 8 (.tmp 12) (.tmp 13)))), (on 15 (.p (.fieldAddr 0 (.tmp 14)))), (on 16 (.r (.load false 1 (.tmp 15)))), (on 17 (.p (.bin .eql (.tmp 16) (ci D 0))))]) (.cond (.tmp 17) (.region [(mv 18 3), (mv 19 4), (mv 20 3), (mv 21 4), (on 22 (.p (.idxSl 8 (.tmp 20) (.tmp 21)))), (on 23 (.p (.fieldAddr 1 (.tmp 22)))), (on 24 (.r (.load true 3 (.tmp 23)))), (on 25 (.call (.const (.func 110 [] [])) [(.tmp 24)])), (on 26 (.p (.idxSl 8 (.tmp 18) (.tmp 19)))), (on 27 (.p (.fieldAddr 1 (.tmp 26)))), ⟨⟨none, none, .e (.store 3 (.tmp 27) (.tmp 25))⟩, []⟩]) (.skip))) (.region [(mv 28 3), (mv 29 4), (mv 30 3), (mv 31 4), (on 32 (.p (.idxSl 8 (.tmp 30) (.tmp 31)))), (on 33 (.p (.fieldAddr 5 (.tmp 32)))), (on 34 (.r (.load true 3 (.tmp 33)))), (on 35 (.call (.const (.func 130 [] [])) [(.tmp 34)])), (on 36 (.p (.idxSl 8 (.tmp 28) (.tmp 29)))), (on 37 (.p (.fieldAddr 5 (.tmp 36)))), ⟨⟨none, none, .e (.store 3 (.tmp 37) (.tmp 35))⟩, []⟩])))) (.region [(on 38 (.p (.bin .add (.tmp 9) (ci D 1)))), (mv 9 38)]))))))) (.seq (.region [
 (mv 39 3), (mv 2 39)]) (.ret))))⟩
theorem lf143_eq (D : Dom I S) : trFunc D (tyFn D) Tryz.f143 = some (lf143 D) := by kernel_rfl
noncomputable def lf146 (D : Dom I S) : LFunc I S := ⟨9, [.tmp 4], .seq (.region [
 (on 4 (.p (.move (.const (.bool false)))))]) (.seq (.region [
 (mv 5 0), (mv 6 1), (on 7 (.call (.const (.func 198 [] [])) [(.tmp 5), (.tmp 6)])), (on 8 (.p (.bin .geq (.tmp 7) (ci D 0)))), (mv 4 8)]) (.ret))⟩
theorem lf146_eq (D : Dom I S) : trFunc D (tyFn D) Tryz.f146 = some (lf146 D) := by kernel_rfl
noncomputable def lf148 (D : Dom I S) : LFunc I S := ⟨17, [], .seq (.region [
 (on 3 (.a (.box (.tmp 1))))]) (.seq (.region [
 (on 7 (.r (.load true 9 (.tmp 3)))), (on 8 (.call (.const (.func 58 [] [])) [(.tmp 7)])), (mv 6 8), (on 9 (.p (.extract 0 (.tmp 6)))), (on 10 (.p (.extract 1 (.tmp 6)))), (mv 4 9), (mv 5 10)]) (.region [(mv 11 0), (on 12 (.p (.nilchk (.tmp 11)))), (on 13 (.p (.fieldAddr 3 (.tmp 12)))), (on 14 (.r (.load false 1 (.tmp 13)))), (mv 15 4), (on 16 (.call (.const (.func 208 [] [])) [(.tmp 14), (.tmp 15)]))]))⟩
theorem lf148_eq (D : Dom I S) : trFunc D (tyFn D) Tryz.f148 = some (lf148 D) := by kernel_rfl
noncomputable def lf149 (D : Dom I S) : LFunc I S := ⟨42, [], .seq (.region [
 (on 4 (.a (.box (.tmp 1))))]) (.seq (.seq (.region [
 (mv 8 0), (on 9 (.r (.eqRef .ptr false (.tmp 8) (.const .nilp))))]) (.cond (.tmp 9) (.ret) (.skip))) (.seq (.seq (.region [
 (mv 11 0), (on 12 (.r (.load true 2 (.tmp 4)))), (on 13 (.call (.const (.func 94 [] [])) [(.tmp 11), (.tmp 12)])), (mv 10 13), (on 14 (.p (.extract 0 (.tmp 10)))), (on 15 (.p (.extract 1 (.tmp 10)))), (mv 6 14), (mv 7 15)]) (.seq (.region [
 (mv 16 6)]) (.cond (.tmp 16) (.ret) (.skip)))) (.seq (.seq (.region [
 (mv 17 0), (on 18 (.r (.load true 2 (.tmp 4)))), (on 19 (.call (.const (.func 209 [] [])) [(.tmp 17), (.tmp 18)])), (on 20 (.p (.bin .lss (.tmp 19) (ci D 0))))]) (.cond (.tmp 20) (.seq (.region [
 (mv 21 0), (mv 22 0), (on 23 (.p (.nilchk (.tmp 22)))), (on 24 (.p (.fieldAddr 5 (.tmp 23)))), (on 25 (.r (.load false 1 (.tmp 24)))), (on 26 (.r (.load true 2 (.tmp 4)))), (mv 27 2), (on 28 (.p (.build [(vi D 0), (vi D 0), (.bool false)] [(0, 2, (.tmp 26)), (2, 1, (.tmp 27))]))), (on 29 (.a (.bslice [(vi D 0), (vi D 0), (.bool false)] 1 3 [(0, (.tmp 28))]))), (on 30 (.e (.append 3 24 (.tmp 25) (.tmp 29)))), (on 31 (.p (.nilchk (.tmp 21)))), (on 32 (.p (.fieldAddr 5 (.tmp 31)))), ⟨⟨none, none, .e (.store 1 (.tmp 32) (.tmp 30))⟩, []⟩]) (.ret)) (.skip))) (.seq (.region [
 (mv 33 0), (on 34 (.p (.nilchk (.tmp 33)))), (on 35 (.p (.fieldAddr 1 (.tmp 34)))), (on 36 (.r (.load false 1 (.tmp 35)))), (on 37 (.call (.const (.func 210 [] [])) [(.tmp 36), (ci D 1)]))]) (.region [(mv 38 0), (on 39 (.r (.load true 2 (.tmp 4)))), (mv 40 2), (on 41 (.call (.const (.func 211 [] [])) [(.tmp 38), (.tmp 39), (.tmp 40)]))])))))⟩
theorem lf149_eq (D : Dom I S) : trFunc D (tyFn D) Tryz.f149 = some (lf149 D) := by kernel_rfl
noncomputable def lf150 (D : Dom I S) : LFunc I S := ⟨42, [.tmp 4], .seq (.region [
 (on 4 (.p (.move (.const .nils))))]) (.seq (.region [
 (mv 8 0), (mv 9 1), (on 10 (.call (.const (.func 212 [] [])) [(.tmp 8), (.tmp 9)])), (mv 5 10)]) (.seq (.seq (.region [
 (mv 11 5), (on 12 (.p (.bin .eql (.tmp 11) (.const (.int .i64 (D.ofInt (.negSucc 0)))))))]) (.cond (.tmp 12) (.seq (.region [
 (mv 13 0), (mv 4 13)]) (.ret)) (.skip))) (.seq (.seq (.region [
 (mv 14 5), (on 15 (.p (.bin .add (.tmp 14) (ci D 1)))), (mv 6 15)]) (.block 0 (.loop (.seq (.seq (.region [
 (mv 16 6), (mv 17 0), (on 18 (.p (.len (.tmp 17)))), (on 19 (.p (.bin .lss (.tmp 16) (.tmp 18))))]) (.cond (.tmp 19) (.skip) (.exit 0))) (.seq (.block 1 (.seq (.region [
 (mv 22 0), (mv 23 6), (on 24 (.p (.idxSl 1 (.tmp 22) (.tmp 23)))), (on 25 (.r (.load false 1 (.tmp 24)))), (mv 7 25)]) (.seq (.region [
 (mv 26 1), (mv 27 7), (on 28 (.call (.tmp 26) [(.tmp 27)])), (on 29 (.p (.un .not (.tmp 28))))]) (.cond (.tmp 29) (.seq (.region [
 (mv 30 0), (mv 31 5), (mv 32 7), (on 33 (.p (.idxSl 1 (.tmp 30) (.tmp 31)))), ⟨⟨none, none, .e (.store 1 (.tmp 33) (.tmp 32))⟩, []⟩]) (.region [(mv 34 5), (on 35 (.p (.bin .add (.tmp 34) (ci D 1)))), (mv 5 35)])) (.skip))))) (.region [(mv 20 6), (on 21 (.p (.bin .add (.tmp 20) (ci D 1)))), (mv 6 21)])))))) (.seq (.region [
 (mv 36 0), (mv 37 5), (on 38 (.p (.slSl 1 (.tmp 36) (some (.tmp 37)) none none))), ⟨⟨none, none, .e (.clear [.nilp] (.tmp 38))⟩, []⟩]) (.seq (.region [
 (mv 39 0), (mv 40 5), (on 41 (.p (.slSl 1 (.tmp 39) none (some (.tmp 40)) none))), (mv 4 41)]) (.ret))))))⟩
theorem lf150_eq (D : Dom I S) : trFunc D (tyFn D) Tryz.f150 = some (lf150 D) := by kernel_rfl
noncomputable def lf151 (D : Dom I S) : LFunc I S := ⟨7, [.tmp 3], .seq (.region [
 (on 3 (.p (.move (.const (.bool false)))))]) (.seq (.region [
 (mv 4 0), (on 5 (.r (.load false 1 (.tmp 1)))), (on 6 (.r (.eqRef .ptr false (.tmp 4) (.tmp 5)))), (mv 3 6)]) (.ret))⟩
theorem lf151_eq (D : Dom I S) : trFunc D (tyFn D) Tryz.f151 = some (lf151 D) := by kernel_rfl
noncomputable def lf153 (D : Dom I S) : LFunc I S := ⟨42, [.tmp 4], .seq (.region [
 (on 4 (.p (.move (.const .nils))))]) (.seq (.region [
 (mv 8 0), (mv 9 1), (on 10 (.call (.const (.func 167 [] [])) [(.tmp 8), (.tmp 9)])), (mv 5 10)]) (.seq (.seq (.region [
 (mv 11 5), (on 12 (.p (.bin .eql (.tmp 11) (.const (.int .i64 (D.ofInt (.negSucc 0)))))))]) (.cond (.tmp 12) (.seq (.region [
 (mv 13 0), (mv 4 13)]) (.ret)) (.skip))) (.seq (.seq (.region [
 (mv 14 5), (on 15 (.p (.bin .add (.tmp 14) (ci D 1)))), (mv 6 15)]) (.block 0 (.loop (.seq (.seq (.region [
 (mv 16 6), (mv 17 0), (on 18 (.p (.len (.tmp 17)))), (on 19 (.p (.bin .lss (.tmp 16) (.tmp 18))))]) (.cond (.tmp 19) (.skip) (.exit 0))) (.seq (.block 1 (.seq (.region [
 (mv 22 0), (mv 23 6), (on 24 (.p (.idxSl 1 (.tmp 22) (.tmp 23)))), (on 25 (.r (.load false 1 (.tmp 24)))), (mv 7 25)]) (.seq (.region [
 (mv 26 1), (mv 27 7), (on 28 (.call (.tmp 26) [(.tmp 27)])), (on 29 (.p (.un .not (.tmp 28))))]) (.cond (.tmp 29) (.seq (.region [
 (mv 30 0), (mv 31 5), (mv 32 7), (on 33 (.p (.idxSl 1 (.tmp 30) (.tmp 31)))), ⟨⟨none, none, .e (.store 1 (.tmp 33) (.tmp 32))⟩, []⟩]) (.region [(mv 34 5), (on 35 (.p (.bin .add (.tmp 34) (ci D 1)))), (mv 5 35)])) (.skip))))) (.region [(mv 20 6), (on 21 (.p (.bin .add (.tmp 20) (ci D 1)))), (mv 6 21)])))))) (.seq (.region [
 (mv 36 0), (mv 37 5), (on 38 (.p (.slSl 1 (.tmp 36) (some (.tmp 37)) none none))), ⟨⟨none, none, .e (.clear [.nilp] (.tmp 38))⟩, []⟩]) (.seq (.region [
 (mv 39 0), (mv 40 5), (on 41 (.p (.slSl 1 (.tmp 39) none (some (.tmp 40)) none))), (mv 4 41)]) (.ret))))))⟩
theorem lf153_eq (D : Dom I S) : trFunc D (tyFn D) Tryz.f153 = some (lf153 D) := by kernel_rfl
noncomputable def lf154 (D : Dom I S) : LFunc I S := ⟨7, [.tmp 3], .seq (.region [
 (on 3 (.p (.move (.const (.bool false)))))]) (.seq (.region [
 (mv 4 0), (on 5 (.r (.load false 1 (.tmp 1)))), (on 6 (.r (.eqRef .ptr false (.tmp 4) (.tmp 5)))), (mv 3 6)]) (.ret))⟩
theorem lf154_eq (D : Dom I S) : trFunc D (tyFn D) Tryz.f154 = some (lf154 D) := by kernel_rfl
noncomputable def lf155 (D : Dom I S) : LFunc I S := ⟨23, [.cell 2 true 5, .tmp 3], .seq (.region [
 (on 2 (.a (.box (.const (.agg [(.bool false), (.bool false), (.bool false), (.bool false), (.bool false)]))))), (on 3 (.p (.move (.const (.bool false)))))]) (.seq (.seq (.region [
 (mv 4 0)]) (.block 0 (.seq (.region [
 (on 6 (.p (.bin .eql (.tmp 4) (ci D 0)))), (mv 5 6)]) (.cond (.tmp 5) (.seq (.region [
 (on 7 (.p (.build [(.bool false), (.bool false), (.bool false), (.bool false), (.bool false)] [(0, 1, (.const (.bool true))), (1, 1, (.const (.bool true)))]))), ⟨⟨none, none, .e (.store 5 (.tmp 2) (.tmp 7))⟩, []⟩, (on 3 (.p (.move (.const (.bool true)))))]) (.ret)) (.seq (.seq (.region [
 (on 9 (.p (.bin .eql (.tmp 4) (ci D 1)))), (mv 8 9)]) (.cond (.tmp 8) (.skip) (.region [(on 10 (.p (.bin .eql (.tmp 4) (ci D 2)))), (mv 8 10)]))) (.cond (.tmp 8) (.seq (.region [
 (on 11 (.p (.build [(.bool false), (.bool false), (.bool false), (.bool false), (.bool false)] [(0, 1, (.const (.bool true))), (2, 1, (.const (.bool true)))]))), ⟨⟨none, none, .e (.store 5 (.tmp 2) (.tmp 11))⟩, []⟩, (on 3 (.p (.move (.const (.bool true)))))]) (.ret)) (.seq (.seq (.region [
 (on 13 (.p (.bin .eql (.tmp 4) (ci D 3)))), (mv 12 13)]) (.cond (.tmp 12) (.skip) (.region [(on 14 (.p (.bin .eql (.tmp 4) (ci D 4)))), (mv 12 14)]))) (.cond (.tmp 12) (.seq (.region [
 (on 15 (.p (.build [(.bool false), (.bool false), (.bool false), (.bool false), (.bool false)] [(0, 1, (.const (.bool true)))]))), ⟨⟨none, none, .e (.store 5 (.tmp 2) (.tmp 15))⟩, []⟩, (on 3 (.p (.move (.const (.bool true)))))]) (.ret)) (.seq (.region [
 (on 17 (.p (.bin .eql (.tmp 4) (ci D 5)))), (mv 16 17)]) (.cond (.tmp 16) (.seq (.region [
 (on 18 (.p (.build [(.bool false), (.bool false), (.bool false), (.bool false), (.bool false)] [(3, 1, (.const (.bool true)))]))), ⟨⟨none, none, .e (.store 5 (.tmp 2) (.tmp 18))⟩, []⟩, (on 3 (.p (.move (.const (.bool true)))))]) (.ret)) (.seq (.region [
 (on 20 (.p (.bin .eql (.tmp 4) (ci D 6)))), (mv 19 20)]) (.cond (.tmp 19) (.seq (.region [
 (on 21 (.p (.build [(.bool false), (.bool false), (.bool false), (.bool false), (.bool false)] [(3, 1, (.const (.bool true))), (4, 1, (.const (.bool true)))]))), ⟨⟨none, none, .e (.store 5 (.tmp 2) (.tmp 21))⟩, []⟩, (on 3 (.p (.move (.const (.bool true)))))]) (.ret)) (.skip))))))))))))) (.seq (.region [
 (on 22 (.p (.build [(.bool false), (.bool false), (.bool false), (.bool false), (.bool false)] []))), ⟨⟨none, none, .e (.store 5 (.tmp 2) (.tmp 22))⟩, []⟩, (on 3 (.p (.move (.const (.bool false)))))]) (.ret)))⟩
theorem lf155_eq (D : Dom I S) : trFunc D (tyFn D) Tryz.f155 = some (lf155 D) := by kernel_rfl
noncomputable def lf156 (D : Dom I S) : LFunc I S := ⟨9, [.tmp 2], .seq (.region [
 (on 2 (.p (.move (.const (.bool false)))))]) (.seq (.region [
 (mv 3 0), (on 4 (.p (.bin .geq (.tmp 3) (ci D 0)))), (mv 5 4), ⟨⟨some 6, some (some 5, true), .p (.move (.tmp 0))⟩, []⟩,
 ⟨⟨some 7, some (some 5, true), .p (.bin .lss (.tmp 6) (ci D 8))⟩, []⟩, (on 8 (.p (.pick (.tmp 5) (.tmp 7) (.const (.bool false))))), (mv 2 8)]) (.ret))⟩
theorem lf156_eq (D : Dom I S) : trFunc D (tyFn D) Tryz.f156 = some (lf156 D) := by kernel_rfl
noncomputable def lf157 (D : Dom I S) : LFunc I S := ⟨33, [.tmp 4], .seq (.region [
 (on 2 (.a (.box (.tmp 0)))), (on 4 (.p (.move (.const (.bool false)))))]) (.seq (.seq (.region [
 (on 5 (.p (.fieldAddr 1 (.tmp 2)))), (on 6 (.r (.load false 1 (.tmp 5)))), (on 7 (.p (.un .not (.tmp 6))))]) (.cond (.tmp 7) (.seq (.region [
 (mv 8 1), (on 9 (.p (.nilchk (.tmp 8)))), (on 10 (.p (.fieldAddr 5 (.tmp 9)))), (on 11 (.r (.load false 1 (.tmp 10)))), (on 12 (.p (.bin .eql (.tmp 11) (ci D 0)))), (mv 13 12), ⟨⟨some 14, some (some 13, true), .p (.move (.tmp 1))⟩, []⟩,
 ⟨⟨some 15, some (some 13, true), .p (.nilchk (.tmp 14))⟩, []⟩,
 ⟨⟨some 16, some (some 13, true), .p (.fieldAddr 14 (.tmp 15))⟩, []⟩,
 ⟨⟨some 17, some (some 13, true), .r (.load false 1 (.tmp 16))⟩, []⟩,
 ⟨⟨some 18, some (some 13, true), .p (.len (.tmp 17))⟩, []⟩,
 ⟨⟨some 19, some (some 13, true), .p (.bin .eql (.tmp 18) (ci D 0))⟩, []⟩, (on 20 (.p (.pick (.tmp 13) (.tmp 19) (.const (.bool false))))), (mv 4 20)]) (.ret)) (.skip))) (.seq (.region [
 (mv 21 1), (on 22 (.p (.nilchk (.tmp 21)))), (on 23 (.p (.fieldAddr 5 (.tmp 22)))), (on 24 (.r (.load false 1 (.tmp 23)))), (on 25 (.call (.const (.func 177 [] [])) [(.tmp 24)])), (mv 26 25), ⟨⟨some 27, some (some 26, true), .p (.move (.tmp 1))⟩, []⟩,
 ⟨⟨some 28, some (some 26, true), .p (.nilchk (.tmp 27))⟩, []⟩,
 ⟨⟨some 29, some (some 26, true), .p (.fieldAddr 14 (.tmp 28))⟩, []⟩,
 ⟨⟨some 30, some (some 26, true), .r (.load false 1 (.tmp 29))⟩, []⟩,
 ⟨⟨some 31, some (some 26, true), .call (.const (.func 71 [] [])) [(.tmp 30), (ci D 8)]⟩, []⟩, (on 32 (.p (.pick (.tmp 26) (.tmp 31) (.const (.bool false))))), (mv 4 32)]) (.ret)))⟩
theorem lf157_eq (D : Dom I S) : trFunc D (tyFn D) Tryz.f157 = some (lf157 D) := by kernel_rfl
noncomputable def lf158 (D : Dom I S) : LFunc I S := ⟨40, [.tmp 4], .seq (.region [
 (on 2 (.a (.box (.tmp 0)))), (on 4 (.p (.move (.const (.bool false)))))]) (.seq (.seq (.region [
 (on 5 (.p (.fieldAddr 3 (.tmp 2)))), (on 6 (.r (.load false 1 (.tmp 5)))), (on 7 (.p (.un .not (.tmp 6))))]) (.cond (.tmp 7) (.seq (.region [
 (mv 8 1), (on 9 (.p (.nilchk (.tmp 8)))), (on 10 (.p (.fieldAddr 7 (.tmp 9)))), (on 11 (.r (.load false 1 (.tmp 10)))), (on 12 (.p (.bin .eql (.tmp 11) (ci D 0)))), (mv 13 12), ⟨⟨some 14, some (some 13, true), .p (.move (.tmp 1))⟩, []⟩,
 ⟨⟨some 15, some (some 13, true), .p (.nilchk (.tmp 14))⟩, []⟩,
 ⟨⟨some 16, some (some 13, true), .p (.fieldAddr 10 (.tmp 15))⟩, []⟩,
 ⟨⟨some 17, some (some 13, true), .r (.load true 4 (.tmp 16))⟩, []⟩,
 ⟨⟨some 18, some (some 13, true), .p (.build [(vi D 0), (vi D 0), (vi D 0), (vi D 0)] [])⟩, []⟩,
 ⟨⟨some 19, some (some 13, true), .p (.eqAgg false 4 (.tmp 17) (.tmp 18))⟩, []⟩, (on 20 (.p (.pick (.tmp 13) (.tmp 19) (.const (.bool false))))), (mv 4 20)]) (.ret)) (.skip))) (.seq (.region [
 (mv 21 1), (on 22 (.p (.nilchk (.tmp 21)))), (on 23 (.p (.fieldAddr 7 (.tmp 22)))), (on 24 (.r (.load false 1 (.tmp 23)))), (on 25 (.p (.bin .geq (.tmp 24) (ci D 1)))), (mv 26 25), ⟨⟨some 27, some (some 26, true), .p (.move (.tmp 1))⟩, []⟩,
 ⟨⟨some 28, some (some 26, true), .p (.nilchk (.tmp 27))⟩, []⟩,
 ⟨⟨some 29, some (some 26, true), .p (.fieldAddr 7 (.tmp 28))⟩, []⟩,
 ⟨⟨some 30, some (some 26, true), .r (.load false 1 (.tmp 29))⟩, []⟩,
 ⟨⟨some 31, some (some 26, true), .p (.bin .leq (.tmp 30) (ci D 65535))⟩, []⟩, (on 32 (.p (.pick (.tmp 26) (.tmp 31) (.const (.bool false))))), (mv 33 32), ⟨⟨some 34, some (some 33, true), .p (.move (.tmp 1))⟩, []⟩,
 ⟨⟨some 35, some (some 33, true), .p (.nilchk (.tmp 34))⟩, []⟩,
 ⟨⟨some 36, some (some 33, true), .p (.fieldAddr 10 (.tmp 35))⟩, []⟩,
 ⟨⟨some 37, some (some 33, true), .r (.load true 4 (.tmp 36))⟩, []⟩,
 ⟨⟨some 38, some (some 33, true), .call (.const (.func 175 [] [])) [(.tmp 37)]⟩, []⟩, (on 39 (.p (.pick (.tmp 33) (.tmp 38) (.const (.bool false))))), (mv 4 39)]) (.ret)))⟩
theorem lf158_eq (D : Dom I S) : trFunc D (tyFn D) Tryz.f158 = some (lf158 D) := by kernel_rfl
noncomputable def lf159 (D : Dom I S) : LFunc I S := ⟨70, [.tmp 4], .seq (.region [
 (on 2 (.a (.box (.tmp 0)))), (on 4 (.p (.move (.const (.bool false)))))]) (.seq (.seq (.region [
 (on 5 (.p (.fieldAddr 4 (.tmp 2)))), (on 6 (.r (.load false 1 (.tmp 5)))), (on 7 (.p (.un .not (.tmp 6))))]) (.cond (.tmp 7) (.seq (.region [
 (mv 8 1), (on 9 (.p (.nilchk (.tmp 8)))), (on 10 (.p (.fieldAddr 8 (.tmp 9)))), (on 11 (.r (.load false 1 (.tmp 10)))), (on 12 (.p (.bin .eql (.tmp 11) (ci D 0)))), (mv 13 12), ⟨⟨some 14, some (some 13, true), .p (.move (.tmp 1))⟩, []⟩,
 ⟨⟨some 15, some (some 13, true), .p (.nilchk (.tmp 14))⟩, []⟩,
 ⟨⟨some 16, some (some 13, true), .p (.fieldAddr 9 (.tmp 15))⟩, []⟩,
 ⟨⟨some 17, some (some 13, true), .r (.load false 1 (.tmp 16))⟩, []⟩,
 ⟨⟨some 18, some (some 13, true), .p (.un .not (.tmp 17))⟩, []⟩, (on 19 (.p (.pick (.tmp 13) (.tmp 18) (.const (.bool false))))), (mv 20 19), ⟨⟨some 21, some (some 20, true), .p (.move (.tmp 1))⟩, []⟩,
 ⟨⟨some 22, some (some 20, true), .p (.nilchk (.tmp 21))⟩, []⟩,
 ⟨⟨some 23, some (some 20, true), .p (.fieldAddr 15 (.tmp 22))⟩, []⟩,
 ⟨⟨some 24, some (some 20, true), .r (.load false 1 (.tmp 23))⟩, []⟩,
 ⟨⟨some 25, some (some 20, true), .p (.len (.tmp 24))⟩, []⟩,
 ⟨⟨some 26, some (some 20, true), .p (.bin .eql (.tmp 25) (ci D 0))⟩, []⟩, (on 27 (.p (.pick (.tmp 20) (.tmp 26) (.const (.bool false))))), (mv 4 27)]) (.ret)) (.skip))) (.seq (.region [
 (mv 28 1), (on 29 (.p (.nilchk (.tmp 28)))), (on 30 (.p (.fieldAddr 8 (.tmp 29)))), (on 31 (.r (.load false 1 (.tmp 30)))), (on 32 (.p (.bin .geq (.tmp 31) (ci D 0)))), (mv 33 32), ⟨⟨some 34, some (some 33, true), .p (.move (.tmp 1))⟩, []⟩,
 ⟨⟨some 35, some (some 33, true), .p (.nilchk (.tmp 34))⟩, []⟩,
 ⟨⟨some 36, some (some 33, true), .p (.fieldAddr 8 (.tmp 35))⟩, []⟩,
 ⟨⟨some 37, some (some 33, true), .r (.load false 1 (.tmp 36))⟩, []⟩,
 ⟨⟨some 38, some (some 33, true), .p (.bin .leq (.tmp 37) (ci D 2147483647))⟩, []⟩, (on 39 (.p (.pick (.tmp 33) (.tmp 38) (.const (.bool false))))), (mv 40 39), ⟨⟨some 41, some (some 40, true), .p (.move (.tmp 1))⟩, []⟩,
 ⟨⟨some 42, some (some 40, true), .p (.nilchk (.tmp 41))⟩, []⟩,
 ⟨⟨some 43, some (some 40, true), .p (.fieldAddr 15 (.tmp 42))⟩, []⟩,
 ⟨⟨some 44, some (some 40, true), .r (.load false 1 (.tmp 43))⟩, []⟩,
 ⟨⟨some 45, some (some 40, true), .p (.len (.tmp 44))⟩, []⟩,
 ⟨⟨some 46, some (some 40, true), .p (.bin .leq (.tmp 45) (ci D 256))⟩, []⟩, (on 47 (.p (.pick (.tmp 40) (.tmp 46) (.const (.bool false))))), (mv 48 47), ⟨⟨some 49, some (some 48, true), .p (.move (.tmp 1))⟩, []⟩,
 ⟨⟨some 50, some (some 48, true), .p (.nilchk (.tmp 49))⟩, []⟩,
 ⟨⟨some 51, some (some 48, true), .p (.fieldAddr 9 (.tmp 50))⟩, []⟩,
 ⟨⟨some 52, some (some 48, true), .r (.load false 1 (.tmp 51))⟩, []⟩,
 ⟨⟨some 53, some (some 48, true), .p (.un .not (.tmp 52))⟩, []⟩,
 ⟨⟨some 54, some (some 48, true), .p (.move (.tmp 53))⟩, []⟩,
 ⟨⟨some 55, some (some 54, false), .p (.move (.tmp 1))⟩, []⟩,
 ⟨⟨some 56, some (some 54, false), .p (.nilchk (.tmp 55))⟩, []⟩,
 ⟨⟨some 57, some (some 54, false), .p (.fieldAddr 15 (.tmp 56))⟩, []⟩,
 ⟨⟨some 58, some (some 54, false), .r (.load false 1 (.tmp 57))⟩, []⟩,
 ⟨⟨some 59, some (some 54, false), .p (.len (.tmp 58))⟩, []⟩,
 ⟨⟨some 60, some (some 54, false), .p (.bin .eql (.tmp 59) (ci D 0))⟩, []⟩,
 ⟨⟨some 61, some (some 48, true), .p (.pick (.tmp 54) (.const (.bool true)) (.tmp 60))⟩, []⟩, (on 62 (.p (.pick (.tmp 48) (.tmp 61) (.const (.bool false))))), (mv 63 62), ⟨⟨some 64, some (some 63, true), .p (.move (.tmp 1))⟩, []⟩,
 ⟨⟨some 65, some (some 63, true), .p (.nilchk (.tmp 64))⟩, []⟩,
 ⟨⟨some 66, some (some 63, true), .p (.fieldAddr 15 (.tmp 65))⟩, []⟩,
 ⟨⟨some 67, some (some 63, true), .r (.load false 1 (.tmp 66))⟩, []⟩,
 ⟨⟨some 68, some (some 63, true), .call (.const (.func 66 [] [])) [(.tmp 67)]⟩, []⟩, (on 69 (.p (.pick (.tmp 63) (.tmp 68) (.const (.bool false))))), (mv 4 69)]) (.ret)))⟩
theorem lf159_eq (D : Dom I S) : trFunc D (tyFn D) Tryz.f159 = some (lf159 D) := by kernel_rfl
noncomputable def lf160 (D : Dom I S) : LFunc I S := ⟨28, [.tmp 4], .seq (.region [
 ⟨⟨some 4, none, .p (.move (.const (.str (D.sOf ⟨#[]⟩))))⟩, []⟩]) (.seq (.region [
 (mv 7 1), (on 8 (.a (.mkslice [(.int .u8 (D.ofInt (.ofNat 0)))] 1 1 (.tmp 7) (.tmp 7)))), (mv 5 8)]) (.seq (.seq (.region [
 (mv 9 5), (on 10 (.p (.len (.tmp 9)))), (on 11 (.p (.move (ci D 0))))]) (.block 0 (.loop (.seq (.region [
 (on 12 (.p (.bin .lss (.tmp 11) (.tmp 10))))]) (.seq (.cond (.tmp 12) (.skip) (.exit 0)) (.seq (.block 1 (.seq (.region [
 (mv 13 11), (mv 6 13)]) (.region [(mv 14 5), (mv 15 6), (mv 16 0), (mv 17 1), (on 18 (.p (.bin .sub (.tmp 17) (ci D 1)))), (mv 19 6), (on 20 (.p (.bin .sub (.tmp 18) (.tmp 19)))), (on 21 (.p (.bin .mul (ci D 8) (.tmp 20)))), (on 22 (.p (.bin .shr (.tmp 16) (.tmp 21)))), (on 23 (.p (.convInt .u8 (.tmp 22)))), (on 24 (.p (.idxSl 1 (.tmp 14) (.tmp 15)))), ⟨⟨none, none, .e (.store 1 (.tmp 24) (.tmp 23))⟩, []⟩]))) (.region [(on 25 (.p (.bin .add (.tmp 11) (ci D 1)))), (mv 11 25)]))))))) (.seq (.region [
 (mv 26 5), (on 27 (.r (.ofBytes (.tmp 26)))), (mv 4 27)]) (.ret))))⟩
theorem lf160_eq (D : Dom I S) : trFunc D (tyFn D) Tryz.f160 = some (lf160 D) := by kernel_rfl
noncomputable def lf161 (D : Dom I S) : LFunc I S := ⟨93, [.tmp 8, .tmp 9], .seq (.region [
 (on 5 (.a (.box (.tmp 1)))), (on 8 (.p (.move (.const (.bool false))))), (on 9 (.p (.move (ci D 0))))]) (.seq (.block 0 (.seq (.region [
 (mv 14 0), (on 15 (.r (.eqRef .ptr false (.tmp 14) (.const .nilp)))), (mv 13 15)]) (.cond (.tmp 13) (.seq (.region [
 (on 8 (.p (.move (.const (.bool false))))), (on 9 (.p (.move (ci D 1))))]) (.ret)) (.seq (.region [
 (on 17 (.r (.load true 2 (.tmp 5)))), (on 18 (.call (.const (.func 70 [] [])) [(.tmp 17)])), (on 19 (.p (.un .not (.tmp 18)))), (mv 20 19), ⟨⟨some 21, some (some 20, false), .p (.move (.tmp 2))⟩, []⟩,
 ⟨⟨some 22, some (some 20, false), .call (.const (.func 177 [] [])) [(.tmp 21)]⟩, []⟩,
 ⟨⟨some 23, some (some 20, false), .p (.un .not (.tmp 22))⟩, []⟩, (on 24 (.p (.pick (.tmp 20) (.const (.bool true)) (.tmp 23)))), (mv 25 24), ⟨⟨some 26, some (some 25, false), .p (.move (.tmp 3))⟩, []⟩,
 ⟨⟨some 27, some (some 25, false), .p (.move (.tmp 0))⟩, []⟩,
 ⟨⟨some 28, some (some 25, false), .p (.nilchk (.tmp 27))⟩, []⟩,
 ⟨⟨some 29, some (some 25, false), .p (.fieldAddr 0 (.tmp 28))⟩, []⟩,
 ⟨⟨some 30, some (some 25, false), .r (.load false 1 (.tmp 29))⟩, []⟩,
 ⟨⟨some 31, some (some 25, false), .call (.const (.func 71 [] [])) [(.tmp 26), (.tmp 30)]⟩, []⟩,
 ⟨⟨some 32, some (some 25, false), .p (.un .not (.tmp 31))⟩, []⟩, (on 33 (.p (.pick (.tmp 25) (.const (.bool true)) (.tmp 32)))), (mv 16 33)]) (.cond (.tmp 16) (.seq (.region [
 (on 8 (.p (.move (.const (.bool false))))), (on 9 (.p (.move (ci D 1900))))]) (.ret)) (.skip)))))) (.seq (.seq (.region [
 (mv 35 0), (on 36 (.r (.load true 2 (.tmp 5)))), (on 37 (.call (.const (.func 94 [] [])) [(.tmp 35), (.tmp 36)])), (mv 34 37), (on 38 (.p (.extract 0 (.tmp 34)))), (on 39 (.p (.extract 1 (.tmp 34)))), (mv 10 38), (mv 11 39)]) (.seq (.region [
 (mv 40 10)]) (.cond (.tmp 40) (.seq (.region [
 (mv 41 11), (mv 8 41), (on 9 (.p (.move (ci D 0))))]) (.ret)) (.skip)))) (.seq (.block 1 (.seq (.region [
 (mv 43 0), (on 44 (.r (.load true 2 (.tmp 5)))), (on 45 (.call (.const (.func 209 [] [])) [(.tmp 43), (.tmp 44)])), (on 46 (.p (.bin .geq (.tmp 45) (ci D 0)))), (mv 42 46)]) (.cond (.tmp 42) (.seq (.region [
 (on 8 (.p (.move (.const (.bool true))))), (on 9 (.p (.move (ci D 0))))]) (.ret)) (.seq (.region [
 (mv 48 2), (on 49 (.p (.bin .neq (.tmp 48) (.const (.int .i64 (D.ofInt (.negSucc 0))))))), (mv 50 49), ⟨⟨some 51, some (some 50, true), .p (.move (.tmp 2))⟩, []⟩,
 ⟨⟨some 52, some (some 50, true), .p (.move (.tmp 0))⟩, []⟩,
 ⟨⟨some 53, some (some 50, true), .p (.nilchk (.tmp 52))⟩, []⟩,
 ⟨⟨some 54, some (some 50, true), .p (.fieldAddr 6 (.tmp 53))⟩, []⟩,
 ⟨⟨some 55, some (some 50, true), .r (.load false 1 (.tmp 54))⟩, []⟩,
 ⟨⟨some 56, some (some 50, true), .p (.bin .neq (.tmp 51) (.tmp 55))⟩, []⟩, (on 57 (.p (.pick (.tmp 50) (.tmp 56) (.const (.bool false))))), (mv 58 57), ⟨⟨some 59, some (some 58, false), .p (.move (.tmp 0))⟩, []⟩,
 ⟨⟨some 60, some (some 58, false), .r (.load true 2 (.tmp 5))⟩, []⟩,
 ⟨⟨some 61, some (some 58, false), .p (.move (.tmp 3))⟩, []⟩,
 ⟨⟨some 62, some (some 58, false), .call (.const (.func 72 [] [])) [(.tmp 59), (.tmp 60), (.tmp 61)]⟩, []⟩,
 ⟨⟨some 63, some (some 58, false), .p (.un .not (.tmp 62))⟩, []⟩, (on 64 (.p (.pick (.tmp 58) (.const (.bool true)) (.tmp 63)))), (mv 47 64)]) (.cond (.tmp 47) (.seq (.region [
 (on 8 (.p (.move (.const (.bool false))))), (on 9 (.p (.move (ci D 0))))]) (.ret)) (.skip)))))) (.seq (.region [
 (mv 65 0), (on 66 (.p (.nilchk (.tmp 65)))), (on 67 (.p (.fieldAddr 1 (.tmp 66)))), (on 68 (.r (.load false 1 (.tmp 67)))), (on 69 (.call (.const (.func 73 [] [])) [(.tmp 68), (ci D 1)])), (mv 12 69)]) (.seq (.seq (.region [
 (mv 70 12), (mv 71 70), ⟨⟨some 72, some (some 71, true), .p (.move (.tmp 0))⟩, []⟩,
 ⟨⟨some 73, some (some 71, true), .r (.load true 2 (.tmp 5))⟩, []⟩,
 ⟨⟨some 74, some (some 71, true), .p (.move (.tmp 2))⟩, []⟩,
 ⟨⟨some 75, some (some 71, true), .p (.move (.tmp 3))⟩, []⟩,
 ⟨⟨some 76, some (some 71, true), .p (.build [(vi D 0), (vi D 0), (vi D 0), (vi D 0), (.bool false), (vi D 0), .nils, .nils, .nils] [(0, 1, (ci D 2)), (1, 2, (.tmp 73)), (3, 1, (.tmp 74)), (8, 1, (.tmp 75))])⟩, []⟩,
 ⟨⟨some 77, some (some 71, true), .call (.const (.func 213 [] [])) [(.tmp 72), (.tmp 76)]⟩, []⟩, (on 78 (.p (.pick (.tmp 71) (.tmp 77) (.const (.bool false)))))]) (.cond (.tmp 78) (.seq (.region [
 (mv 79 0), (on 80 (.p (.nilchk (.tmp 79)))), (on 81 (.p (.fieldAddr 1 (.tmp 80)))), (on 82 (.r (.load false 1 (.tmp 81)))), (on 83 (.call (.const (.func 60 [] [])) [(.tmp 82)]))]) (.seq (.region [
 (on 8 (.p (.move (.const (.bool true))))), (on 9 (.p (.move (ci D 0))))]) (.ret))) (.skip))) (.seq (.seq (.region [
 (mv 84 12)]) (.cond (.tmp 84) (.region [(mv 85 0), (on 86 (.p (.nilchk (.tmp 85)))), (on 87 (.p (.fieldAddr 1 (.tmp 86)))), (on 88 (.r (.load false 1 (.tmp 87)))), (on 89 (.call (.const (.func 210 [] [])) [(.tmp 88), (ci D 1)]))]) (.skip))) (.seq (.region [
 (mv 90 0), (on 91 (.r (.load true 2 (.tmp 5)))), (on 92 (.call (.const (.func 214 [] [])) [(.tmp 90), (.tmp 91)]))]) (.seq (.region [
 (on 8 (.p (.move (.const (.bool false))))), (on 9 (.p (.move (ci D 0))))]) (.ret)))))))))⟩
theorem lf161_eq (D : Dom I S) : trFunc D (tyFn D) Tryz.f161 = some (lf161 D) := by kernel_rfl
noncomputable def lf162 (D : Dom I S) : LFunc I S := ⟨25, [.tmp 8], .seq (.region [
 (on 8 (.p (.move (.const .nils))))]) (.seq (.region [
 (mv 9 2), (mv 10 0), (on 11 (.p (.nilchk (.tmp 10)))), (on 12 (.p (.fieldAddr 0 (.tmp 11)))), (on 13 (.r (.load false 1 (.tmp 12)))), (mv 14 1), (on 15 (.p (.nilchk (.tmp 14)))), (on 16 (.p (.fieldAddr 1 (.tmp 15)))), (on 17 (.r (.load false 1 (.tmp 16)))), (mv 18 1), (on 19 (.p (.nilchk (.tmp 18)))), (on 20 (.p (.fieldAddr 3 (.tmp 19)))), (on 21 (.r (.load true 2 (.tmp 20)))), (mv 22 3), (on 23 (.p (.build [(vi D 0), (vi D 0), (vi D 0), (vi D 0), (vi D 0), (vi D 0), (.bool false), (vi D 0), (vi D 0), (.bool false), (vi D 0), (vi D 0), (vi D 0), (vi D 0), .nils, .nils] [(0, 1, (.tmp 9)), (1, 1, (.tmp 13)), (2, 1, (.tmp 17)), (3, 2, (.tmp 21)), (6, 1, (.tmp 22))]))), (on 24 (.a (.bslice [(vi D 0), (vi D 0), (vi D 0), (vi D 0), (vi D 0), (vi D 0), (.bool false), (vi D 0), (vi D 0), (.bool false), (vi D 0), (vi D 0), (vi D 0), (vi D 0), .nils, .nils] 1 16 [(0, (.tmp 23))]))), (mv 8 24)]) (.ret))⟩
theorem lf162_eq (D : Dom I S) : trFunc D (tyFn D) Tryz.f162 = some (lf162 D) := by kernel_rfl
noncomputable def lf166 (D : Dom I S) : LFunc I S := ⟨54, [.tmp 6, .tmp 7], .seq (.region [
 (on 4 (.a (.box (.tmp 1)))), (on 6 (.p (.move (.const (.bool false))))), (on 7 (.p (.move (ci D 0))))]) (.seq (.block 0 (.seq (.region [
 (mv 13 0), (on 14 (.r (.eqRef .ptr false (.tmp 13) (.const .nilp)))), (mv 12 14)]) (.cond (.tmp 12) (.seq (.region [
 (on 6 (.p (.move (.const (.bool false))))), (on 7 (.p (.move (ci D 1))))]) (.ret)) (.seq (.region [
 (on 16 (.r (.load true 2 (.tmp 4)))), (on 17 (.call (.const (.func 70 [] [])) [(.tmp 16)])), (on 18 (.p (.un .not (.tmp 17)))), (mv 15 18)]) (.cond (.tmp 15) (.seq (.region [
 (on 6 (.p (.move (.const (.bool false))))), (on 7 (.p (.move (ci D 1900))))]) (.ret)) (.skip)))))) (.seq (.seq (.region [
 (mv 20 0), (on 21 (.r (.load true 2 (.tmp 4)))), (on 22 (.call (.const (.func 94 [] [])) [(.tmp 20), (.tmp 21)])), (mv 19 22), (on 23 (.p (.extract 0 (.tmp 19)))), (on 24 (.p (.extract 1 (.tmp 19)))), (mv 8 23), (mv 9 24)]) (.seq (.region [
 (mv 25 8)]) (.cond (.tmp 25) (.seq (.region [
 (on 6 (.p (.move (.const (.bool true))))), (on 7 (.p (.move (ci D 0))))]) (.ret)) (.skip)))) (.seq (.seq (.region [
 (mv 26 0), (on 27 (.r (.load true 2 (.tmp 4)))), (on 28 (.call (.const (.func 209 [] [])) [(.tmp 26), (.tmp 27)])), (on 29 (.p (.bin .lss (.tmp 28) (ci D 0))))]) (.cond (.tmp 29) (.seq (.region [
 (mv 30 2), (on 31 (.p (.un .not (.tmp 30)))), (mv 6 31), (on 7 (.p (.move (ci D 0))))]) (.ret)) (.skip))) (.seq (.region [
 (on 33 (.r (.load true 2 (.tmp 4)))), (mv 34 2), (on 35 (.p (.build [(vi D 0), (vi D 0), (vi D 0), (vi D 0), (.bool false), (vi D 0), .nils, .nils, .nils] [(0, 1, (ci D 3)), (1, 2, (.tmp 33)), (4, 1, (.tmp 34))]))), (on 36 (.call (.const (.func 58 [] [])) [(.tmp 35)])), (mv 32 36), (on 37 (.p (.extract 0 (.tmp 32)))), (on 38 (.p (.extract 1 (.tmp 32)))), (mv 10 37), (mv 11 38)]) (.seq (.region [
 (mv 39 0), (on 40 (.p (.nilchk (.tmp 39)))), (on 41 (.p (.fieldAddr 1 (.tmp 40)))), (on 42 (.r (.load false 1 (.tmp 41)))), (mv 43 10), (on 44 (.call (.const (.func 208 [] [])) [(.tmp 42), (.tmp 43)]))]) (.seq (.region [
 (mv 45 0), (on 46 (.p (.nilchk (.tmp 45)))), (on 47 (.p (.fieldAddr 1 (.tmp 46)))), (on 48 (.r (.load false 1 (.tmp 47)))), (on 49 (.call (.const (.func 60 [] [])) [(.tmp 48)]))]) (.seq (.region [
 (mv 50 0), (on 51 (.r (.load true 2 (.tmp 4)))), (mv 52 2), (on 53 (.call (.const (.func 211 [] [])) [(.tmp 50), (.tmp 51), (.tmp 52)]))]) (.seq (.region [
 (on 6 (.p (.move (.const (.bool true))))), (on 7 (.p (.move (ci D 0))))]) (.ret)))))))))⟩
theorem lf166_eq (D : Dom I S) : trFunc D (tyFn D) Tryz.f166 = some (lf166 D) := by kernel_rfl
noncomputable def lf167 (D : Dom I S) : LFunc I S := ⟨19, [.tmp 4], .seq (.region [
 (on 4 (.p (.move (ci D 0))))]) (.seq (.seq (.region [
 (mv 6 0), (on 7 (.p (.len (.tmp 6)))), (on 8 (.p (.move (ci D 0))))]) (.block 0 (.loop (.seq (.region [
 (on 9 (.p (.bin .lss (.tmp 8) (.tmp 7))))]) (.seq (.cond (.tmp 9) (.skip) (.exit 0)) (.seq (.block 1 (.seq (.region [
 (mv 10 8), (mv 5 10)]) (.seq (.region [
 (mv 11 1), (mv 12 0), (mv 13 5), (on 14 (.p (.idxSl 1 (.tmp 12) (.tmp 13)))), (on 15 (.r (.load false 1 (.tmp 14)))), (on 16 (.call (.tmp 11) [(.tmp 15)]))]) (.cond (.tmp 16) (.seq (.region [
 (mv 17 5), (mv 4 17)]) (.ret)) (.skip))))) (.region [(on 18 (.p (.bin .add (.tmp 8) (ci D 1)))), (mv 8 18)]))))))) (.seq (.region [
 (on 4 (.p (.move (.const (.int .i64 (D.ofInt (.negSucc 0)))))))]) (.ret)))⟩
theorem lf167_eq (D : Dom I S) : trFunc D (tyFn D) Tryz.f167 = some (lf167 D) := by kernel_rfl
noncomputable def lf171 (D : Dom I S) : LFunc I S := ⟨26, [.cell 4 true 4], .seq (.region [
 (on 2 (.a (.box (.tmp 0)))), (on 3 (.a (.box (.tmp 1)))), (on 4 (.a (.box (.const (.agg [(vi D 0), (vi D 0), (vi D 0), (vi D 0)])))))]) (.seq (.region [
 (on 5 (.p (.fieldAddr 0 (.tmp 2)))), (on 6 (.r (.load false 1 (.tmp 5)))), (on 7 (.p (.fieldAddr 0 (.tmp 3)))), (on 8 (.r (.load false 1 (.tmp 7)))), (on 9 (.p (.min [(.tmp 6), (.tmp 8)]))), (on 10 (.p (.fieldAddr 1 (.tmp 2)))), (on 11 (.r (.load false 1 (.tmp 10)))), (on 12 (.p (.fieldAddr 1 (.tmp 3)))), (on 13 (.r (.load false 1 (.tmp 12)))), (on 14 (.p (.min [(.tmp 11), (.tmp 13)]))), (on 15 (.p (.fieldAddr 0 (.tmp 2)))), (on 16 (.r (.load false 1 (.tmp 15)))), (on 17 (.p (.fieldAddr 0 (.tmp 3)))), (on 18 (.r (.load false 1 (.tmp 17)))), (on 19 (.p (.max [(.tmp 16), (.tmp 18)]))), (on 20 (.p (.fieldAddr 1 (.tmp 2)))), (on 21 (.r (.load false 1 (.tmp 20)))), (on 22 (.p (.fieldAddr 1 (.tmp 3)))), (on 23 (.r (.load false 1 (.tmp 22)))), (on 24 (.p (.max [(.tmp 21), (.tmp 23)]))), (on 25 (.p (.build [(vi D 0), (vi D 0), (vi D 0), (vi D 0)] [(0, 1, (.tmp 9)), (1, 1, (.tmp 14)), (2, 1, (.tmp 19)), (3, 1, (.tmp 24))]))), ⟨⟨none, none, .e (.store 4 (.tmp 4) (.tmp 25))⟩, []⟩]) (.ret))⟩
theorem lf171_eq (D : Dom I S) : trFunc D (tyFn D) Tryz.f171 = some (lf171 D) := by kernel_rfl
noncomputable def lf172 (D : Dom I S) : LFunc I S := ⟨30, [.tmp 4, .cell 5 true 2], .seq (.region [
 (on 4 (.p (.move (ci D 0)))), (on 5 (.a (.box (.const (.agg [(.int .u64 (D.ofInt (.ofNat 0))), (.int .u64 (D.ofInt (.ofNat 0)))])))))]) (.seq (.region [
 (on 6 (.p (.move (ci D 1))))]) (.seq (.seq (.region [
 (mv 8 0), (on 9 (.p (.bin .lss (.tmp 8) (ci D 0))))]) (.cond (.tmp 9) (.seq (.region [
 (mv 10 0), (on 11 (.p (.un .neg (.tmp 10)))), (mv 0 11)]) (.region [(mv 12 6), (on 13 (.p (.un .neg (.tmp 12)))), (mv 6 13)])) (.skip))) (.seq (.seq (.region [
 (mv 14 1), (on 15 (.p (.bin .lss (.tmp 14) (ci D 0))))]) (.cond (.tmp 15) (.seq (.region [
 (mv 16 1), (on 17 (.p (.un .neg (.tmp 16)))), (mv 1 17)]) (.region [(mv 18 6), (on 19 (.p (.un .neg (.tmp 18)))), (mv 6 19)])) (.skip))) (.seq (.region [
 (mv 20 0), (on 21 (.p (.convInt .u64 (.tmp 20)))), (mv 22 1), (on 23 (.p (.convInt .u64 (.tmp 22)))), (on 24 (.call (.const (.func 217 [] [])) [(.tmp 21), (.tmp 23)])), (on 7 (.a (.box (.const (.agg [(.int .u64 (D.ofInt (.ofNat 0))), (.int .u64 (D.ofInt (.ofNat 0)))]))))), ⟨⟨none, none, .e (.store 2 (.tmp 7) (.tmp 24))⟩, []⟩]) (.seq (.seq (.region [
 (on 25 (.r (.load true 2 (.tmp 7)))), (on 26 (.p (.build [(.int .u64 (D.ofInt (.ofNat 0))), (.int .u64 (D.ofInt (.ofNat 0)))] []))), (on 27 (.p (.eqAgg false 2 (.tmp 25) (.tmp 26))))]) (.cond (.tmp 27) (.region [(on 6 (.p (.move (ci D 0))))]) (.skip))) (.seq (.region [
 (mv 28 6), (on 29 (.r (.load true 2 (.tmp 7)))), (mv 4 28), ⟨⟨none, none, .e (.store 2 (.tmp 5) (.tmp 29))⟩, []⟩]) (.ret)))))))⟩
theorem lf172_eq (D : Dom I S) : trFunc D (tyFn D) Tryz.f172 = some (lf172 D) := by kernel_rfl
noncomputable def lf173 (D : Dom I S) : LFunc I S := ⟨29, [.tmp 4], .seq (.region [
 (on 2 (.a (.box (.tmp 0)))), (on 3 (.a (.box (.tmp 1)))), (on 4 (.p (.move (ci D 0))))]) (.seq (.block 0 (.seq (.region [
 (on 6 (.r (.load true 2 (.tmp 2)))), (on 7 (.r (.load true 2 (.tmp 3)))), (on 8 (.p (.eqAgg false 2 (.tmp 6) (.tmp 7)))), (mv 5 8)]) (.cond (.tmp 5) (.seq (.region [
 (on 4 (.p (.move (ci D 0))))]) (.ret)) (.seq (.region [
 (on 10 (.p (.fieldAddr 0 (.tmp 2)))), (on 11 (.r (.load false 1 (.tmp 10)))), (on 12 (.p (.fieldAddr 0 (.tmp 3)))), (on 13 (.r (.load false 1 (.tmp 12)))), (on 14 (.p (.bin .lss (.tmp 11) (.tmp 13)))), (mv 15 14), ⟨⟨some 16, some (some 15, false), .p (.fieldAddr 0 (.tmp 2))⟩, []⟩,
 ⟨⟨some 17, some (some 15, false), .r (.load false 1 (.tmp 16))⟩, []⟩,
 ⟨⟨some 18, some (some 15, false), .p (.fieldAddr 0 (.tmp 3))⟩, []⟩,
 ⟨⟨some 19, some (some 15, false), .r (.load false 1 (.tmp 18))⟩, []⟩,
 ⟨⟨some 20, some (some 15, false), .p (.bin .eql (.tmp 17) (.tmp 19))⟩, []⟩,
 ⟨⟨some 21, some (some 15, false), .p (.move (.tmp 20))⟩, []⟩,
 ⟨⟨some 22, some (some 21, true), .p (.fieldAddr 1 (.tmp 2))⟩, []⟩,
 ⟨⟨some 23, some (some 21, true), .r (.load false 1 (.tmp 22))⟩, []⟩,
 ⟨⟨some 24, some (some 21, true), .p (.fieldAddr 1 (.tmp 3))⟩, []⟩,
 ⟨⟨some 25, some (some 21, true), .r (.load false 1 (.tmp 24))⟩, []⟩,
 ⟨⟨some 26, some (some 21, true), .p (.bin .lss (.tmp 23) (.tmp 25))⟩, []⟩,
 ⟨⟨some 27, some (some 15, false), .p (.pick (.tmp 21) (.tmp 26) (.const (.bool false)))⟩, []⟩, (on 28 (.p (.pick (.tmp 15) (.const (.bool true)) (.tmp 27)))), (mv 9 28)]) (.cond (.tmp 9) (.seq (.region [
 (on 4 (.p (.move (.const (.int .i64 (D.ofInt (.negSucc 0)))))))]) (.ret)) (.skip)))))) (.seq (.region [
 (on 4 (.p (.move (ci D 1))))]) (.ret)))⟩
theorem lf173_eq (D : Dom I S) : trFunc D (tyFn D) Tryz.f173 = some (lf173 D) := by kernel_rfl
noncomputable def lf175 (D : Dom I S) : LFunc I S := ⟨35, [.tmp 2], .seq (.region [
 (on 1 (.a (.box (.tmp 0)))), (on 2 (.p (.move (.const (.bool false)))))]) (.seq (.region [
 (on 3 (.p (.fieldAddr 0 (.tmp 1)))), (on 4 (.r (.load false 1 (.tmp 3)))), (on 5 (.call (.const (.func 219 [] [])) [(.tmp 4)])), (mv 6 5), ⟨⟨some 7, some (some 6, true), .p (.fieldAddr 1 (.tmp 1))⟩, []⟩,
 ⟨⟨some 8, some (some 6, true), .r (.load false 1 (.tmp 7))⟩, []⟩,
 ⟨⟨some 9, some (some 6, true), .call (.const (.func 219 [] [])) [(.tmp 8)]⟩, []⟩, (on 10 (.p (.pick (.tmp 6) (.tmp 9) (.const (.bool false))))), (mv 11 10), ⟨⟨some 12, some (some 11, true), .p (.fieldAddr 2 (.tmp 1))⟩, []⟩,
 ⟨⟨some 13, some (some 11, true), .r (.load false 1 (.tmp 12))⟩, []⟩,
 ⟨⟨some 14, some (some 11, true), .call (.const (.func 219 [] [])) [(.tmp 13)]⟩, []⟩, (on 15 (.p (.pick (.tmp 11) (.tmp 14) (.const (.bool false))))), (mv 16 15), ⟨⟨some 17, some (some 16, true), .p (.fieldAddr 3 (.tmp 1))⟩, []⟩,
 ⟨⟨some 18, some (some 16, true), .r (.load false 1 (.tmp 17))⟩, []⟩,
 ⟨⟨some 19, some (some 16, true), .call (.const (.func 219 [] [])) [(.tmp 18)]⟩, []⟩, (on 20 (.p (.pick (.tmp 16) (.tmp 19) (.const (.bool false))))), (mv 21 20), ⟨⟨some 22, some (some 21, true), .p (.fieldAddr 0 (.tmp 1))⟩, []⟩,
 ⟨⟨some 23, some (some 21, true), .r (.load false 1 (.tmp 22))⟩, []⟩,
 ⟨⟨some 24, some (some 21, true), .p (.fieldAddr 2 (.tmp 1))⟩, []⟩,
 ⟨⟨some 25, some (some 21, true), .r (.load false 1 (.tmp 24))⟩, []⟩,
 ⟨⟨some 26, some (some 21, true), .p (.bin .leq (.tmp 23) (.tmp 25))⟩, []⟩, (on 27 (.p (.pick (.tmp 21) (.tmp 26) (.const (.bool false))))), (mv 28 27), ⟨⟨some 29, some (some 28, true), .p (.fieldAddr 1 (.tmp 1))⟩, []⟩,
 ⟨⟨some 30, some (some 28, true), .r (.load false 1 (.tmp 29))⟩, []⟩,
 ⟨⟨some 31, some (some 28, true), .p (.fieldAddr 3 (.tmp 1))⟩, []⟩,
 ⟨⟨some 32, some (some 28, true), .r (.load false 1 (.tmp 31))⟩, []⟩,
 ⟨⟨some 33, some (some 28, true), .p (.bin .leq (.tmp 30) (.tmp 32))⟩, []⟩, (on 34 (.p (.pick (.tmp 28) (.tmp 33) (.const (.bool false))))), (mv 2 34)]) (.ret))⟩
theorem lf175_eq (D : Dom I S) : trFunc D (tyFn D) Tryz.f175 = some (lf175 D) := by kernel_rfl
noncomputable def lf176 (D : Dom I S) : LFunc I S := ⟨11, [.tmp 2], .seq (.region [
 (on 1 (.a (.box (.tmp 0)))), (on 2 (.p (.move (.const (.bool false)))))]) (.seq (.region [
 (on 3 (.p (.fieldAddr 0 (.tmp 1)))), (on 4 (.r (.load false 1 (.tmp 3)))), (on 5 (.call (.const (.func 219 [] [])) [(.tmp 4)])), (mv 6 5), ⟨⟨some 7, some (some 6, true), .p (.fieldAddr 1 (.tmp 1))⟩, []⟩,
 ⟨⟨some 8, some (some 6, true), .r (.load false 1 (.tmp 7))⟩, []⟩,
 ⟨⟨some 9, some (some 6, true), .call (.const (.func 219 [] [])) [(.tmp 8)]⟩, []⟩, (on 10 (.p (.pick (.tmp 6) (.tmp 9) (.const (.bool false))))), (mv 2 10)]) (.ret))⟩
theorem lf176_eq (D : Dom I S) : trFunc D (tyFn D) Tryz.f176 = some (lf176 D) := by kernel_rfl
noncomputable def lf177 (D : Dom I S) : LFunc I S := ⟨9, [.tmp 2], .seq (.region [
 (on 2 (.p (.move (.const (.bool false)))))]) (.seq (.region [
 (mv 3 0), (on 4 (.p (.bin .geq (.tmp 3) (.const (.int .i64 (D.ofInt (.negSucc 0))))))), (mv 5 4), ⟨⟨some 6, some (some 5, true), .p (.move (.tmp 0))⟩, []⟩,
 ⟨⟨some 7, some (some 5, true), .p (.bin .leq (.tmp 6) (ci D 65535))⟩, []⟩, (on 8 (.p (.pick (.tmp 5) (.tmp 7) (.const (.bool false))))), (mv 2 8)]) (.ret))⟩
theorem lf177_eq (D : Dom I S) : trFunc D (tyFn D) Tryz.f177 = some (lf177 D) := by kernel_rfl
noncomputable def lf178 (D : Dom I S) : LFunc I S := ⟨51, [.tmp 4], .seq (.region [
 (on 4 (.p (.move (.const (.bool false)))))]) (.seq (.region [
 (mv 8 1), (on 9 (.p (.nilchk (.tmp 8)))), (on 10 (.p (.fieldAddr 0 (.tmp 9)))), (on 11 (.r (.load true 2 (.tmp 10)))), (mv 12 1), (on 13 (.p (.nilchk (.tmp 12)))), (on 14 (.p (.fieldAddr 2 (.tmp 13)))), (on 15 (.r (.load false 1 (.tmp 14)))), (mv 16 1), (on 17 (.p (.nilchk (.tmp 16)))), (on 18 (.p (.fieldAddr 3 (.tmp 17)))), (on 19 (.r (.load false 1 (.tmp 18)))), (on 20 (.p (.build [(vi D 0), (vi D 0), (vi D 0), (vi D 0), (.bool false), (vi D 0), .nils, .nils, .nils] [(0, 1, (ci D 1)), (1, 2, (.tmp 11)), (3, 1, (.tmp 15)), (8, 1, (.tmp 19))]))), (on 21 (.call (.const (.func 58 [] [])) [(.tmp 20)])), (mv 7 21), (on 22 (.p (.extract 0 (.tmp 7)))), (on 23 (.p (.extract 1 (.tmp 7)))), (mv 5 22), (mv 6 23)]) (.seq (.seq (.region [
 (mv 24 6), (on 25 (.p (.bin .neq (.tmp 24) (ci D 0)))), (mv 26 25), ⟨⟨some 27, some (some 26, false), .p (.move (.tmp 0))⟩, []⟩,
 ⟨⟨some 28, some (some 26, false), .p (.nilchk (.tmp 27))⟩, []⟩,
 ⟨⟨some 29, some (some 26, false), .p (.fieldAddr 3 (.tmp 28))⟩, []⟩,
 ⟨⟨some 30, some (some 26, false), .r (.load false 1 (.tmp 29))⟩, []⟩,
 ⟨⟨some 31, some (some 26, false), .call (.const (.func 73 [] [])) [(.tmp 30), (ci D 2)]⟩, []⟩,
 ⟨⟨some 32, some (some 26, false), .p (.un .not (.tmp 31))⟩, []⟩, (on 33 (.p (.pick (.tmp 26) (.const (.bool true)) (.tmp 32))))]) (.cond (.tmp 33) (.seq (.region [
 (on 4 (.p (.move (.const (.bool false)))))]) (.ret)) (.skip))) (.seq (.seq (.region [
 (mv 34 0), (on 35 (.p (.nilchk (.tmp 34)))), (on 36 (.p (.fieldAddr 3 (.tmp 35)))), (on 37 (.r (.load false 1 (.tmp 36)))), (mv 38 5), (on 39 (.call (.const (.func 59 [] [])) [(.tmp 37), (.tmp 38)])), (on 40 (.p (.bin .neq (.tmp 39) (ci D 0))))]) (.cond (.tmp 40) (.seq (.region [
 (mv 41 0), (on 42 (.p (.nilchk (.tmp 41)))), (on 43 (.p (.fieldAddr 3 (.tmp 42)))), (on 44 (.r (.load false 1 (.tmp 43)))), (on 45 (.call (.const (.func 210 [] [])) [(.tmp 44), (ci D 2)]))]) (.seq (.region [
 (on 4 (.p (.move (.const (.bool false)))))]) (.ret))) (.skip))) (.seq (.region [
 (mv 46 0), (on 47 (.p (.nilchk (.tmp 46)))), (on 48 (.p (.fieldAddr 3 (.tmp 47)))), (on 49 (.r (.load false 1 (.tmp 48)))), (on 50 (.call (.const (.func 60 [] [])) [(.tmp 49)]))]) (.seq (.region [
 (on 4 (.p (.move (.const (.bool true)))))]) (.ret))))))⟩
theorem lf178_eq (D : Dom I S) : trFunc D (tyFn D) Tryz.f178 = some (lf178 D) := by kernel_rfl
noncomputable def lf180 (D : Dom I S) : LFunc I S := ⟨12, [.cell 2 true 16], .seq (.region [
 (on 1 (.a (.box (.tmp 0)))), (on 2 (.a (.box (.const (.agg [(vi D 0), (vi D 0), (vi D 0), (vi D 0), (vi D 0), (vi D 0), (.bool false), (vi D 0), (vi D 0), (.bool false), (vi D 0), (vi D 0), (vi D 0), (vi D 0), .nils, .nils])))))]) (.seq (.region [
 (on 3 (.p (.fieldAddr 14 (.tmp 1)))), (on 4 (.r (.load false 1 (.tmp 3)))), (on 6 (.p (.fieldAddr 15 (.tmp 1)))), (on 7 (.r (.load false 1 (.tmp 6)))), ⟨⟨some 5, none, .call (.const (.func 143 [] [])) [(.tmp 4)]⟩, [⟨some 7, none, .r (.load false 1 (.tmp 6))⟩]⟩, (on 9 (.p (.fieldAddr 14 (.tmp 1)))), (on 8 (.call (.const (.func 47 [] [])) [(.tmp 7)])), ⟨⟨none, none, .e (.store 1 (.tmp 9) (.tmp 5))⟩, []⟩, (on 10 (.p (.fieldAddr 15 (.tmp 1)))), ⟨⟨none, none, .e (.store 1 (.tmp 10) (.tmp 8))⟩, []⟩]) (.seq (.region [
 (on 11 (.r (.load true 16 (.tmp 1)))), ⟨⟨none, none, .e (.store 16 (.tmp 2) (.tmp 11))⟩, []⟩]) (.ret)))⟩
theorem lf180_eq (D : Dom I S) : trFunc D (tyFn D) Tryz.f180 = some (lf180 D) := by kernel_rfl
noncomputable def lf181 (D : Dom I S) : LFunc I S := ⟨60, [.cell 2 true 3], .seq (.region [
 (on 2 (.a (.box (.const (.agg [(vi D 0), (vi D 0), .nils])))))]) (.seq (.region [
 (mv 7 0), (on 8 (.p (.nilchk (.tmp 7)))), (on 9 (.p (.fieldAddr 17 (.tmp 8)))), (on 10 (.r (.load false 1 (.tmp 9)))), (mv 11 0), (on 12 (.p (.nilchk (.tmp 11)))), (on 13 (.p (.fieldAddr 18 (.tmp 12)))), (on 14 (.r (.load false 1 (.tmp 13)))), (on 15 (.p (.idxSl 1 (.tmp 14) (ci D 0)))), (on 16 (.r (.load false 1 (.tmp 15)))), (on 17 (.r (.lookup 0 (.agg [(vi D 0), (vi D 0), (vi D 0), (vi D 0), (vi D 0), (vi D 0), (.bool false), (vi D 0), (vi D 0), (.bool false), (vi D 0), (vi D 0), (vi D 0), (vi D 0), .nils, .nils]) false (.tmp 10) (.tmp 16)))), (on 18 (.p (.field false 8 1 (.tmp 17)))), (mv 3 18)]) (.seq (.seq (.region [
 (mv 19 0), (on 20 (.p (.nilchk (.tmp 19)))), (on 21 (.p (.fieldAddr 17 (.tmp 20)))), (on 22 (.r (.load false 1 (.tmp 21)))), (on 23 (.e (.range (.tmp 22))))]) (.block 0 (.loop (.seq (.region [
 (on 24 (.e (.next (.tmp 23)))), (on 25 (.p (.extract 0 (.tmp 24))))]) (.seq (.cond (.tmp 25) (.skip) (.exit 0)) (.block 1 (.seq (.region [
 (on 26 (.r (.entry (.tmp 23)))), (on 27 (.p (.extract 1 (.tmp 26)))), (on 5 (.a (.box (.const (.agg [(vi D 0), (vi D 0), (vi D 0), (vi D 0), (vi D 0), (vi D 0), (.bool false), (vi D 0), (vi D 0), (.bool false), (vi D 0), (vi D 0), (vi D 0), (vi D 0), .nils, .nils]))))), ⟨⟨none, none, .e (.store 16 (.tmp 5) (.tmp 27))⟩, []⟩]) (.seq (.region [
 (on 28 (.p (.fieldAddr 9 (.tmp 5)))), (on 29 (.r (.load false 1 (.tmp 28)))), (mv 30 29), ⟨⟨some 31, some (some 30, false), .p (.fieldAddr 8 (.tmp 5))⟩, []⟩,
 ⟨⟨some 32, some (some 30, false), .r (.load false 1 (.tmp 31))⟩, []⟩,
 ⟨⟨some 33, some (some 30, false), .p (.move (.tmp 3))⟩, []⟩,
 ⟨⟨some 34, some (some 30, false), .p (.bin .neq (.tmp 32) (.tmp 33))⟩, []⟩, (on 35 (.p (.pick (.tmp 30) (.const (.bool true)) (.tmp 34))))]) (.cond (.tmp 35) (.seq (.region [
 (on 36 (.p (.build [(vi D 0), (vi D 0), .nils] [(1, 1, (ci D 2))]))), ⟨⟨none, none, .e (.store 3 (.tmp 2) (.tmp 36))⟩, []⟩]) (.ret)) (.skip)))))))))) (.seq (.region [
 (mv 37 0), (on 38 (.call (.const (.func 220 [] [])) [(.tmp 37)])), (mv 6 38)]) (.seq (.seq (.region [
 (mv 39 0), (on 40 (.p (.nilchk (.tmp 39)))), (on 41 (.p (.fieldAddr 0 (.tmp 40)))), (on 42 (.p (.fieldAddr 0 (.tmp 41)))), (on 43 (.r (.load false 1 (.tmp 42)))), (on 44 (.p (.bin .eql (.tmp 43) (ci D 2))))]) (.cond (.tmp 44) (.region [(mv 45 6), (mv 46 0), (on 47 (.p (.nilchk (.tmp 46)))), (on 48 (.p (.fieldAddr 0 (.tmp 47)))), (on 49 (.p (.fieldAddr 6 (.tmp 48)))), (on 50 (.r (.load true 2 (.tmp 49)))), (mv 51 0), (on 52 (.p (.nilchk (.tmp 51)))), (on 53 (.p (.fieldAddr 0 (.tmp 52)))), (on 54 (.p (.fieldAddr 8 (.tmp 53)))), (on 55 (.r (.load false 1 (.tmp 54)))), (on 56 (.call (.const (.func 221 [] [])) [(.tmp 45), (.tmp 50), (.tmp 55)])), (mv 6 56)]) (.skip))) (.seq (.region [
 (mv 57 6), (on 58 (.call (.const (.func 47 [] [])) [(.tmp 57)])), (on 59 (.p (.build [(vi D 0), (vi D 0), .nils] [(1, 1, (ci D 0)), (2, 1, (.tmp 58))]))), ⟨⟨none, none, .e (.store 3 (.tmp 2) (.tmp 59))⟩, []⟩]) (.ret))))))⟩
theorem lf181_eq (D : Dom I S) : trFunc D (tyFn D) Tryz.f181 = some (lf181 D) := by kernel_rfl
noncomputable def lf182 (D : Dom I S) : LFunc I S := ⟨42, [.tmp 4], .seq (.region [
 (on 4 (.p (.move (.const .nils))))]) (.seq (.region [
 (mv 8 0), (mv 9 1), (on 10 (.call (.const (.func 92 [] [])) [(.tmp 8), (.tmp 9)])), (mv 5 10)]) (.seq (.seq (.region [
 (mv 11 5), (on 12 (.p (.bin .eql (.tmp 11) (.const (.int .i64 (D.ofInt (.negSucc 0)))))))]) (.cond (.tmp 12) (.seq (.region [
 (mv 13 0), (mv 4 13)]) (.ret)) (.skip))) (.seq (.seq (.region [
 (mv 14 5), (on 15 (.p (.bin .add (.tmp 14) (ci D 1)))), (mv 6 15)]) (.block 0 (.loop (.seq (.seq (.region [
 (mv 16 6), (mv 17 0), (on 18 (.p (.len (.tmp 17)))), (on 19 (.p (.bin .lss (.tmp 16) (.tmp 18))))]) (.cond (.tmp 19) (.skip) (.exit 0))) (.seq (.block 1 (.seq (.region [
 (mv 22 0), (mv 23 6), (on 24 (.p (.idxSl 1 (.tmp 22) (.tmp 23)))), (on 25 (.r (.load false 1 (.tmp 24)))), (mv 7 25)]) (.seq (.region [
 (mv 26 1), (mv 27 7), (on 28 (.call (.tmp 26) [(.tmp 27)])), (on 29 (.p (.un .not (.tmp 28))))]) (.cond (.tmp 29) (.seq (.region [
 (mv 30 0), (mv 31 5), (mv 32 7), (on 33 (.p (.idxSl 1 (.tmp 30) (.tmp 31)))), ⟨⟨none, none, .e (.store 1 (.tmp 33) (.tmp 32))⟩, []⟩]) (.region [(mv 34 5), (on 35 (.p (.bin .add (.tmp 34) (ci D 1)))), (mv 5 35)])) (.skip))))) (.region [(mv 20 6), (on 21 (.p (.bin .add (.tmp 20) (ci D 1)))), (mv 6 21)])))))) (.seq (.region [
 (mv 36 0), (mv 37 5), (on 38 (.p (.slSl 1 (.tmp 36) (some (.tmp 37)) none none))), ⟨⟨none, none, .e (.clear [.nilp] (.tmp 38))⟩, []⟩]) (.seq (.region [
 (mv 39 0), (mv 40 5), (on 41 (.p (.slSl 1 (.tmp 39) none (some (.tmp 40)) none))), (mv 4 41)]) (.ret))))))⟩
theorem lf182_eq (D : Dom I S) : trFunc D (tyFn D) Tryz.f182 = some (lf182 D) := by kernel_rfl
noncomputable def lf183 (D : Dom I S) : LFunc I S := ⟨7, [.tmp 3], .seq (.region [
 (on 3 (.p (.move (.const (.bool false)))))]) (.seq (.region [
 (mv 4 0), (on 5 (.r (.load false 1 (.tmp 1)))), (on 6 (.r (.eqRef .ptr false (.tmp 4) (.tmp 5)))), (mv 3 6)]) (.ret))⟩
theorem lf183_eq (D : Dom I S) : trFunc D (tyFn D) Tryz.f183 = some (lf183 D) := by kernel_rfl
noncomputable def lf185 (D : Dom I S) : LFunc I S := ⟨29, [.tmp 4, .tmp 5], .seq (.region [
 (on 3 (.a (.box (.tmp 1)))), (on 4 (.p (.move (.const .nils)))), (on 5 (.p (.move (ci D 0))))]) (.seq (.block 0 (.seq (.region [
 (mv 8 0), (on 9 (.r (.eqRef .ptr false (.tmp 8) (.const .nilp)))), (mv 7 9)]) (.cond (.tmp 7) (.seq (.region [
 (on 4 (.p (.move (.const .nils)))), (on 5 (.p (.move (ci D 1))))]) (.ret)) (.seq (.region [
 (on 11 (.r (.load true 4 (.tmp 3)))), (on 12 (.call (.const (.func 175 [] [])) [(.tmp 11)])), (on 13 (.p (.un .not (.tmp 12)))), (mv 10 13)]) (.cond (.tmp 10) (.seq (.region [
 (on 4 (.p (.move (.const .nils)))), (on 5 (.p (.move (ci D 1200))))]) (.ret)) (.seq (.region [
 (mv 15 0), (on 16 (.p (.nilchk (.tmp 15)))), (on 17 (.p (.fieldAddr 0 (.tmp 16)))), (on 18 (.r (.load false 1 (.tmp 17)))), (on 19 (.r (.eqRef .ptr false (.tmp 18) (.const .nilp)))), (mv 14 19)]) (.cond (.tmp 14) (.seq (.region [
 (on 4 (.p (.move (.const .nils)))), (on 5 (.p (.move (ci D 0))))]) (.ret)) (.skip)))))))) (.seq (.region [
 (mv 20 0), (on 21 (.p (.nilchk (.tmp 20)))), (on 22 (.p (.fieldAddr 0 (.tmp 21)))), (on 23 (.r (.load false 1 (.tmp 22)))), (on 24 (.r (.load true 4 (.tmp 3)))), (on 25 (.call (.const (.func 224 [] [])) [(.tmp 23), (.tmp 24)])), (mv 6 25)]) (.seq (.region [
 (mv 26 6), (on 27 (.call (.const (.func 225 [] [])) [(.tmp 26)]))]) (.seq (.region [
 (mv 28 6), (mv 4 28), (on 5 (.p (.move (ci D 0))))]) (.ret)))))⟩
theorem lf185_eq (D : Dom I S) : trFunc D (tyFn D) Tryz.f185 = some (lf185 D) := by kernel_rfl
noncomputable def lf186 (D : Dom I S) : LFunc I S := ⟨42, [.cell 4 false 1, .cell 5 false 1], .seq (.region [
 (on 2 (.a (.box (.tmp 0)))), (on 3 (.a (.box (.tmp 1)))), (on 4 (.a (.box (.const (.bool false))))), (on 5 (.a (.box (ci D 0))))]) (.seq (.seq (.region [
 (on 11 (.r (.load true 3 (.tmp 2)))), (on 12 (.call (.const (.func 137 [] [])) [(.tmp 11)])), (on 13 (.p (.un .not (.tmp 12)))), (mv 14 13), ⟨⟨some 15, some (some 14, false), .r (.load true 4 (.tmp 3))⟩, []⟩,
 ⟨⟨some 16, some (some 14, false), .call (.const (.func 175 [] [])) [(.tmp 15)]⟩, []⟩,
 ⟨⟨some 17, some (some 14, false), .p (.un .not (.tmp 16))⟩, []⟩, (on 18 (.p (.pick (.tmp 14) (.const (.bool true)) (.tmp 17))))]) (.cond (.tmp 18) (.seq (.region [
 ⟨⟨none, none, .e (.store 1 (.tmp 4) (.const (.bool false)))⟩, []⟩,
 ⟨⟨none, none, .e (.store 1 (.tmp 5) (ci D 400))⟩, []⟩]) (.ret)) (.skip))) (.seq (.seq (.region [
 (on 19 (.call (.const (.func 226 [] [])) [(.tmp 2)]))]) (.block 0 (.rangef (.tmp 19) [20] (.region [(on 6 (.a (.box (.const (.agg [(vi D 0), (vi D 0)]))))), ⟨⟨none, none, .e (.store 2 (.tmp 6) (.tmp 20))⟩, []⟩]) (.block 1 (.seq (.region [
 (on 21 (.r (.load true 2 (.tmp 6)))), (on 22 (.r (.load true 4 (.tmp 3)))), (on 23 (.call (.const (.func 227 [] [])) [(.tmp 21), (.tmp 22)]))]) (.cond (.tmp 23) (.seq (.region [
 ⟨⟨none, none, .e (.store 1 (.tmp 4) (.const (.bool true)))⟩, []⟩,
 ⟨⟨none, none, .e (.store 1 (.tmp 5) (ci D 0))⟩, []⟩]) (.ret)) (.skip))))))) (.seq (.region [
 (on 24 (.r (.load true 4 (.tmp 3)))), (on 25 (.call (.const (.func 228 [] [])) [(.tmp 24)])), (on 7 (.a (.box (.const (.agg [(vi D 0), (vi D 0), (vi D 0), (vi D 0), (vi D 0), (vi D 0), (vi D 0), (vi D 0)]))))), ⟨⟨none, none, .e (.store 8 (.tmp 7) (.tmp 25))⟩, []⟩]) (.seq (.seq (.region [
 (on 26 (.call (.const (.func 229 [] [])) [(.tmp 2)]))]) (.block 2 (.rangef (.tmp 26) [27, 28] (.seq (.region [
 (on 8 (.a (.box (.const (.agg [(vi D 0), (vi D 0)]))))), ⟨⟨none, none, .e (.store 2 (.tmp 8) (.tmp 27))⟩, []⟩]) (.region [(on 9 (.a (.box (.const (.agg [(vi D 0), (vi D 0)]))))), ⟨⟨none, none, .e (.store 2 (.tmp 9) (.tmp 28))⟩, []⟩])) (.block 3 (.seq (.region [
 (on 29 (.r (.load true 2 (.tmp 8)))), (on 30 (.r (.load true 2 (.tmp 9)))), (on 31 (.r (.load true 8 (.tmp 7)))), (on 32 (.call (.const (.func 230 [] [])) [(.tmp 29), (.tmp 30), (.tmp 31)]))]) (.cond (.tmp 32) (.seq (.region [
 ⟨⟨none, none, .e (.store 1 (.tmp 4) (.const (.bool true)))⟩, []⟩,
 ⟨⟨none, none, .e (.store 1 (.tmp 5) (ci D 0))⟩, []⟩]) (.ret)) (.skip))))))) (.seq (.region [
 (on 33 (.p (.mkfunc 231 [] [(.tmp 2)]))), (mv 10 33)]) (.seq (.no) (.ret)))))))⟩
theorem lf186_eq (D : Dom I S) : trFunc D (tyFn D) Tryz.f186 = some (lf186 D) := by kernel_rfl
noncomputable def lf187 (D : Dom I S) : LFunc I S := ⟨8, [.tmp 2], .seq (.region [
 (on 2 (.p (.move (.const .nils))))]) (.seq (.seq (.region [
 (mv 3 0), (on 4 (.r (.eqRef .sl false (.tmp 3) (.const .nils))))]) (.cond (.tmp 4) (.seq (.region [
 (on 2 (.p (.move (.const .nils))))]) (.ret)) (.skip))) (.seq (.region [
 (on 5 (.a (.bslice [(vi D 0), (vi D 0)] 0 2 []))), (mv 6 0), (on 7 (.e (.append 2 16 (.tmp 5) (.tmp 6)))), (mv 2 7)]) (.ret)))⟩
theorem lf187_eq (D : Dom I S) : trFunc D (tyFn D) Tryz.f187 = some (lf187 D) := by kernel_rfl
noncomputable def lf188 (D : Dom I S) : LFunc I S := ⟨9, [.tmp 2], .seq (.region [
 (on 2 (.p (.move (.const .nils))))]) (.seq (.region [
 (mv 4 0), (on 5 (.call (.const (.func 234 [] [])) [(.tmp 4)])), (mv 3 5)]) (.seq (.region [
 (mv 6 3), (on 7 (.call (.const (.func 225 [] [])) [(.tmp 6)]))]) (.seq (.region [
 (mv 8 3), (mv 2 8)]) (.ret))))⟩
theorem lf188_eq (D : Dom I S) : trFunc D (tyFn D) Tryz.f188 = some (lf188 D) := by kernel_rfl
noncomputable def lf189 (D : Dom I S) : LFunc I S := ⟨4, [.tmp 2], .seq (.region [
 (on 1 (.a (.box (.tmp 0)))), (on 2 (.p (.move (.const .nilf))))]) (.seq (.region [
 (on 3 (.p (.mkfunc 235 [] [(.tmp 1)]))), (mv 2 3)]) (.ret))⟩
theorem lf189_eq (D : Dom I S) : trFunc D (tyFn D) Tryz.f189 = some (lf189 D) := by kernel_rfl
noncomputable def lf191 (D : Dom I S) : LFunc I S := ⟨10, [], .seq (.region [
 (mv 2 0), (on 3 (.p (.nilchk (.tmp 2)))), (on 4 (.p (.fieldAddr 1 (.tmp 3)))), (on 5 (.r (.load false 1 (.tmp 4)))), ⟨⟨none, none, .e (.clearM (.tmp 5))⟩, []⟩]) (.region [(mv 6 0), (on 7 (.p (.nilchk (.tmp 6)))), (on 8 (.p (.fieldAddr 2 (.tmp 7)))), (on 9 (.call (.const (.func 237 [] [])) [(.tmp 8), (ci D 0)]))])⟩
theorem lf191_eq (D : Dom I S) : trFunc D (tyFn D) Tryz.f191 = some (lf191 D) := by kernel_rfl
noncomputable def lf192 (D : Dom I S) : LFunc I S := ⟨24, [.tmp 2], .seq (.region [
 (on 2 (.p (.move (.const (.bool false)))))]) (.seq (.region [
 (mv 3 0), (on 4 (.p (.nilchk (.tmp 3)))), (on 5 (.p (.fieldAddr 0 (.tmp 4)))), (on 6 (.r (.load false 1 (.tmp 5)))), (on 7 (.p (.bin .eql (.tmp 6) (ci D 0)))), (mv 8 7), ⟨⟨some 9, some (some 8, true), .p (.move (.tmp 0))⟩, []⟩,
 ⟨⟨some 10, some (some 8, true), .p (.nilchk (.tmp 9))⟩, []⟩,
 ⟨⟨some 11, some (some 8, true), .p (.fieldAddr 1 (.tmp 10))⟩, []⟩,
 ⟨⟨some 12, some (some 8, true), .r (.load false 1 (.tmp 11))⟩, []⟩,
 ⟨⟨some 13, some (some 8, true), .p (.len (.tmp 12))⟩, []⟩,
 ⟨⟨some 14, some (some 8, true), .p (.bin .eql (.tmp 13) (ci D 0))⟩, []⟩, (on 15 (.p (.pick (.tmp 8) (.tmp 14) (.const (.bool false))))), (mv 16 15), ⟨⟨some 17, some (some 16, true), .p (.move (.tmp 0))⟩, []⟩,
 ⟨⟨some 18, some (some 16, true), .p (.nilchk (.tmp 17))⟩, []⟩,
 ⟨⟨some 19, some (some 16, true), .p (.fieldAddr 2 (.tmp 18))⟩, []⟩,
 ⟨⟨some 20, some (some 16, true), .r (.load false 1 (.tmp 19))⟩, []⟩,
 ⟨⟨some 21, some (some 16, true), .p (.len (.tmp 20))⟩, []⟩,
 ⟨⟨some 22, some (some 16, true), .p (.bin .eql (.tmp 21) (ci D 0))⟩, []⟩, (on 23 (.p (.pick (.tmp 16) (.tmp 22) (.const (.bool false))))), (mv 2 23)]) (.ret))⟩
theorem lf192_eq (D : Dom I S) : trFunc D (tyFn D) Tryz.f192 = some (lf192 D) := by kernel_rfl
noncomputable def lf193 (D : Dom I S) : LFunc I S := ⟨37, [.cell 2 true 3], .seq (.region [
 (on 2 (.a (.box (.const (.agg [(vi D 0), (vi D 0), .nils])))))]) (.seq (.region [
 (mv 6 0), (on 7 (.call (.const (.func 124 [] [])) [(.tmp 6), (ci D 2)])), (mv 8 0), (on 9 (.call (.const (.func 124 [] [])) [(.tmp 8), (ci D 1)])), (on 10 (.p (.build [(vi D 0), (vi D 0), .nils] [(0, 1, (.tmp 7)), (1, 1, (.tmp 9))]))), (on 3 (.a (.box (.const (.agg [(vi D 0), (vi D 0), .nils]))))), ⟨⟨none, none, .e (.store 3 (.tmp 3) (.tmp 10))⟩, []⟩]) (.seq (.seq (.region [
 (mv 11 0), (on 12 (.call (.const (.func 124 [] [])) [(.tmp 11), (ci D 1)])), (on 13 (.p (.move (ci D 0))))]) (.block 0 (.loop (.seq (.region [
 (on 14 (.p (.bin .lss (.tmp 13) (.tmp 12))))]) (.seq (.cond (.tmp 14) (.skip) (.exit 0)) (.seq (.block 1 (.seq (.region [
 (on 4 (.p (.move (.const .nils))))]) (.seq (.seq (.region [
 (mv 15 0), (on 16 (.call (.const (.func 124 [] [])) [(.tmp 15), (ci D 1)])), (on 17 (.p (.move (ci D 0))))]) (.block 2 (.loop (.seq (.region [
 (on 18 (.p (.bin .lss (.tmp 17) (.tmp 16))))]) (.seq (.cond (.tmp 18) (.skip) (.exit 2)) (.seq (.block 3 (.seq (.region [
 (mv 19 0), (on 20 (.call (.const (.func 124 [] [])) [(.tmp 19), (ci D 4)])), (mv 5 20)]) (.region [(mv 21 4), (mv 22 5), (mv 23 0), (on 24 (.call (.const (.func 124 [] [])) [(.tmp 23), (ci D 4)])), (on 25 (.p (.build [(vi D 0), (vi D 0)] [(0, 1, (.tmp 22)), (1, 1, (.tmp 24))]))), (on 26 (.a (.bslice [(vi D 0), (vi D 0)] 1 2 [(0, (.tmp 25))]))), (on 27 (.e (.append 2 16 (.tmp 21) (.tmp 26)))), (mv 4 27)]))) (.region [(on 28 (.p (.bin .add (.tmp 17) (ci D 1)))), (mv 17 28)]))))))) (.region [(on 29 (.p (.fieldAddr 2 (.tmp 3)))), (on 30 (.r (.load false 1 (.tmp 29)))), (mv 31 4), (on 32 (.a (.bslice [.nils] 1 1 [(0, (.tmp 31))]))), (on 33 (.e (.append 1 24 (.tmp 30) (.tmp 32)))), (on 34 (.p (.fieldAddr 2 (.tmp 3)))), ⟨⟨none, none, .e (.store 1 (.tmp 34) (.tmp 33))⟩, []⟩])))) (.region [(on 35 (.p (.bin .add (.tmp 13) (ci D 1)))), (mv 13 35)]))))))) (.seq (.region [
 (on 36 (.r (.load true 3 (.tmp 3)))), ⟨⟨none, none, .e (.store 3 (.tmp 2) (.tmp 36))⟩, []⟩]) (.ret))))⟩
theorem lf193_eq (D : Dom I S) : trFunc D (tyFn D) Tryz.f193 = some (lf193 D) := by kernel_rfl
noncomputable def lf194 (D : Dom I S) : LFunc I S := ⟨8, [.tmp 2], .seq (.region [
 (on 2 (.p (.move (.const .nils))))]) (.seq (.seq (.region [
 (mv 3 0), (on 4 (.r (.eqRef .sl false (.tmp 3) (.const .nils))))]) (.cond (.tmp 4) (.seq (.region [
 (on 2 (.p (.move (.const .nils))))]) (.ret)) (.skip))) (.seq (.region [
 (on 5 (.a (.bslice [(vi D 0)] 0 1 []))), (mv 6 0), (on 7 (.e (.append 1 8 (.tmp 5) (.tmp 6)))), (mv 2 7)]) (.ret)))⟩
theorem lf194_eq (D : Dom I S) : trFunc D (tyFn D) Tryz.f194 = some (lf194 D) := by kernel_rfl
noncomputable def lf195 (D : Dom I S) : LFunc I S := ⟨8, [.tmp 4], .seq (.region [
 (on 3 (.a (.box (.tmp 1)))), (on 4 (.p (.move (ci D 0))))]) (.seq (.region [
 (mv 5 0), (on 6 (.p (.mkfunc 239 [] [(.tmp 3)]))), (on 7 (.call (.const (.func 238 [] [])) [(.tmp 5), (.tmp 6)])), (mv 4 7)]) (.ret))⟩
theorem lf195_eq (D : Dom I S) : trFunc D (tyFn D) Tryz.f195 = some (lf195 D) := by kernel_rfl
noncomputable def lf197 (D : Dom I S) : LFunc I S := ⟨33, [.tmp 6], .seq (.region [
 (on 6 (.p (.move (.const .nils))))]) (.seq (.region [
 (mv 8 0), (mv 9 1), (mv 10 2), (mv 11 0), (on 12 (.p (.len (.tmp 11)))), (on 13 (.p (.slSl 3 (.tmp 8) (some (.tmp 9)) (some (.tmp 10)) (some (.tmp 12)))))]) (.seq (.seq (.region [
 (mv 14 1), (mv 15 2), (on 16 (.p (.bin .eql (.tmp 14) (.tmp 15))))]) (.cond (.tmp 16) (.seq (.region [
 (mv 17 0), (mv 6 17)]) (.ret)) (.skip))) (.seq (.region [
 (mv 18 0), (on 19 (.p (.len (.tmp 18)))), (mv 7 19)]) (.seq (.region [
 (mv 20 0), (mv 21 1), (on 22 (.p (.slSl 3 (.tmp 20) none (some (.tmp 21)) none))), (mv 23 0), (mv 24 2), (on 25 (.p (.slSl 3 (.tmp 23) (some (.tmp 24)) none none))), (on 26 (.e (.append 3 40 (.tmp 22) (.tmp 25)))), (mv 0 26)]) (.seq (.region [
 (mv 27 0), (mv 28 0), (on 29 (.p (.len (.tmp 28)))), (mv 30 7), (on 31 (.p (.slSl 3 (.tmp 27) (some (.tmp 29)) (some (.tmp 30)) none))), ⟨⟨none, none, .e (.clear [(vi D 0), (vi D 0), .nils] (.tmp 31))⟩, []⟩]) (.seq (.region [
 (mv 32 0), (mv 6 32)]) (.ret)))))))⟩
theorem lf197_eq (D : Dom I S) : trFunc D (tyFn D) Tryz.f197 = some (lf197 D) := by kernel_rfl
noncomputable def lf198 (D : Dom I S) : LFunc I S := ⟨19, [.tmp 4], .seq (.region [
 (on 4 (.p (.move (ci D 0))))]) (.seq (.seq (.region [
 (mv 6 0), (on 7 (.p (.len (.tmp 6)))), (on 8 (.p (.move (ci D 0))))]) (.block 0 (.loop (.seq (.region [
 (on 9 (.p (.bin .lss (.tmp 8) (.tmp 7))))]) (.seq (.cond (.tmp 9) (.skip) (.exit 0)) (.seq (.block 1 (.seq (.region [
 (mv 10 8), (mv 5 10)]) (.seq (.region [
 (mv 11 1), (mv 12 0), (mv 13 5), (on 14 (.p (.idxSl 3 (.tmp 12) (.tmp 13)))), (on 15 (.r (.load true 3 (.tmp 14)))), (on 16 (.call (.tmp 11) [(.tmp 15)]))]) (.cond (.tmp 16) (.seq (.region [
 (mv 17 5), (mv 4 17)]) (.ret)) (.skip))))) (.region [(on 18 (.p (.bin .add (.tmp 8) (ci D 1)))), (mv 8 18)]))))))) (.seq (.region [
 (on 4 (.p (.move (.const (.int .i64 (D.ofInt (.negSucc 0)))))))]) (.ret)))⟩
theorem lf198_eq (D : Dom I S) : trFunc D (tyFn D) Tryz.f198 = some (lf198 D) := by kernel_rfl
noncomputable def lf202 (D : Dom I S) : LFunc I S := ⟨42, [], .seq (.region [
 (on 3 (.a (.box (.tmp 1))))]) (.seq (.region [
 (mv 6 0), (on 7 (.p (.fieldAddr 0 (.tmp 3)))), (on 8 (.r (.load false 1 (.tmp 7)))), (on 9 (.call (.const (.func 203 [] [])) [(.tmp 6), (.tmp 8)]))]) (.seq (.region [
 (mv 10 0), (on 11 (.p (.nilchk (.tmp 10)))), (on 12 (.p (.fieldAddr 2 (.tmp 11)))), (on 13 (.r (.load true 3 (.tmp 12)))), (mv 14 0), (on 15 (.p (.nilchk (.tmp 14)))), (on 16 (.p (.fieldAddr 0 (.tmp 15)))), (on 17 (.r (.load false 1 (.tmp 16)))), (on 18 (.r (.load true 3 (.tmp 3)))), (on 19 (.call (.const (.func 241 [] [])) [(.tmp 13), (.tmp 17), (.tmp 18)]))]) (.cond (.tmp 19) (.seq (.region [
 (on 21 (.r (.load true 3 (.tmp 3)))), (on 22 (.call (.const (.func 242 [] [])) [(.tmp 21)])), (mv 20 22), (on 23 (.p (.extract 0 (.tmp 20)))), (on 24 (.p (.extract 1 (.tmp 20)))), (on 4 (.a (.box (.const (.agg [(vi D 0), (vi D 0), (vi D 0), (vi D 0)]))))), ⟨⟨none, none, .e (.store 4 (.tmp 4) (.tmp 23))⟩, []⟩, (mv 5 24)]) (.seq (.region [
 (mv 25 0), (on 26 (.p (.nilchk (.tmp 25)))), (on 27 (.p (.fieldAddr 5 (.tmp 26)))), (on 28 (.r (.load false 1 (.tmp 27)))), (on 29 (.p (.fieldAddr 0 (.tmp 3)))), (on 30 (.r (.load false 1 (.tmp 29)))), (on 31 (.r (.load true 3 (.tmp 3)))), ⟨⟨some 32, none, .call (.const (.func 110 [] [])) [(.tmp 31)]⟩, [⟨some 30, none, .r (.load false 1 (.tmp 29))⟩, ⟨some 28, none, .r (.load false 1 (.tmp 27))⟩]⟩, ⟨⟨none, none, .e (.mapset 0 (.tmp 28) (.tmp 30) (.tmp 32))⟩, []⟩]) (.region [(mv 33 0), (on 34 (.p (.nilchk (.tmp 33)))), (on 35 (.p (.fieldAddr 6 (.tmp 34)))), (on 36 (.r (.load false 1 (.tmp 35)))), (on 37 (.p (.fieldAddr 0 (.tmp 3)))), (on 38 (.r (.load false 1 (.tmp 37)))), (on 39 (.r (.load true 4 (.tmp 4)))), (on 40 (.p (.build [(vi D 0), (vi D 0), (vi D 0), (vi D 0), (vi D 0)] [(0, 1, (.tmp 38)), (1, 4, (.tmp 39))]))), (on 41 (.call (.const (.func 243 [] [])) [(.tmp 36), (.tmp 40)]))]))) (.skip))))⟩
theorem lf202_eq (D : Dom I S) : trFunc D (tyFn D) Tryz.f202 = some (lf202 D) := by kernel_rfl
noncomputable def lf203 (D : Dom I S) : LFunc I S := ⟨27, [], .seq (.region [
 (mv 7 0), (on 8 (.p (.nilchk (.tmp 7)))), (on 9 (.p (.fieldAddr 5 (.tmp 8)))), (on 10 (.r (.load false 1 (.tmp 9)))), (mv 11 1), (on 12 (.r (.lookup 0 (.agg [(vi D 0), (vi D 0), .nils]) true (.tmp 10) (.tmp 11)))), (mv 6 12), (on 13 (.p (.extract 0 (.tmp 6)))), (on 14 (.p (.extract 1 (.tmp 6)))), (on 4 (.a (.box (.const (.agg [(vi D 0), (vi D 0), .nils]))))), ⟨⟨none, none, .e (.store 3 (.tmp 4) (.tmp 13))⟩, []⟩, (mv 5 14)]) (.seq (.region [
 (mv 15 5)]) (.cond (.tmp 15) (.seq (.region [
 (mv 16 0), (on 17 (.p (.nilchk (.tmp 16)))), (on 18 (.p (.fieldAddr 5 (.tmp 17)))), (on 19 (.r (.load false 1 (.tmp 18)))), (mv 20 1), ⟨⟨none, none, .e (.delete 0 (.tmp 19) (.tmp 20))⟩, []⟩]) (.region [(mv 21 0), (on 22 (.p (.nilchk (.tmp 21)))), (on 23 (.p (.fieldAddr 6 (.tmp 22)))), (on 24 (.r (.load false 1 (.tmp 23)))), (mv 25 1), (on 26 (.call (.const (.func 244 [] [])) [(.tmp 24), (.tmp 25)]))])) (.skip)))⟩
theorem lf203_eq (D : Dom I S) : trFunc D (tyFn D) Tryz.f203 = some (lf203 D) := by kernel_rfl
noncomputable def lf206 (D : Dom I S) : LFunc I S := ⟨9, [.tmp 4], .seq (.region [
 (on 3 (.a (.box (.tmp 1)))), (on 4 (.p (.move (.const (.bool false)))))]) (.seq (.region [
 (mv 5 0), (on 6 (.r (.load true 2 (.tmp 3)))), (on 7 (.call (.const (.func 245 [] [])) [(.tmp 5), (.tmp 6)])), (on 8 (.p (.bin .geq (.tmp 7) (ci D 0)))), (mv 4 8)]) (.ret))⟩
theorem lf206_eq (D : Dom I S) : trFunc D (tyFn D) Tryz.f206 = some (lf206 D) := by kernel_rfl
noncomputable def lf207 (D : Dom I S) : LFunc I S := ⟨8, [.tmp 2], .seq (.region [
 (on 2 (.p (.move (.const .nils))))]) (.seq (.seq (.region [
 (mv 3 0), (on 4 (.r (.eqRef .sl false (.tmp 3) (.const .nils))))]) (.cond (.tmp 4) (.seq (.region [
 (on 2 (.p (.move (.const .nils))))]) (.ret)) (.skip))) (.seq (.region [
 (on 5 (.a (.bslice [(vi D 0), (vi D 0), (vi D 0), .nils, (vi D 0), (vi D 0), .nils, .nils] 0 8 []))), (mv 6 0), (on 7 (.e (.append 8 112 (.tmp 5) (.tmp 6)))), (mv 2 7)]) (.ret)))⟩
theorem lf207_eq (D : Dom I S) : trFunc D (tyFn D) Tryz.f207 = some (lf207 D) := by kernel_rfl
noncomputable def lf208 (D : Dom I S) : LFunc I S := ⟨27, [.tmp 4], .seq (.region [
 (on 4 (.p (.move (ci D 0))))]) (.seq (.block 0 (.seq (.region [
 (mv 6 0), (on 7 (.r (.eqRef .ptr false (.tmp 6) (.const .nilp)))), (mv 5 7)]) (.cond (.tmp 5) (.seq (.region [
 (on 4 (.p (.move (ci D 1))))]) (.ret)) (.seq (.region [
 (mv 9 1), (on 10 (.p (.lenS (.tmp 9)))), (on 11 (.call (.const (.func 114 [] [])) [(.tmp 10)])), (on 12 (.p (.bin .neq (.tmp 11) (ci D 1)))), (mv 13 12), ⟨⟨some 14, some (some 13, false), .p (.move (.tmp 0))⟩, []⟩,
 ⟨⟨some 15, some (some 13, false), .p (.nilchk (.tmp 14))⟩, []⟩,
 ⟨⟨some 16, some (some 13, false), .p (.fieldAddr 3 (.tmp 15))⟩, []⟩,
 ⟨⟨some 17, some (some 13, false), .call (.const (.func 38 [] [])) [(.tmp 16)]⟩, []⟩,
 ⟨⟨some 18, some (some 13, false), .p (.bin .eql (.tmp 17) (ci D 0))⟩, []⟩, (on 19 (.p (.pick (.tmp 13) (.const (.bool true)) (.tmp 18)))), (mv 8 19)]) (.cond (.tmp 8) (.seq (.region [
 (on 4 (.p (.move (ci D 1000))))]) (.ret)) (.skip)))))) (.seq (.region [
 (mv 20 0), (on 21 (.p (.nilchk (.tmp 20)))), (on 22 (.p (.fieldAddr 3 (.tmp 21)))), (on 23 (.call (.const (.func 39 [] [])) [(.tmp 22), (.const (.int .i64 (D.ofInt (.negSucc 0))))]))]) (.seq (.region [
 (mv 24 0), (mv 25 1), (on 26 (.call (.const (.func 123 [] [])) [(.tmp 24), (.tmp 25)]))]) (.seq (.region [
 (on 4 (.p (.move (ci D 0))))]) (.ret)))))⟩
theorem lf208_eq (D : Dom I S) : trFunc D (tyFn D) Tryz.f208 = some (lf208 D) := by kernel_rfl
noncomputable def lf209 (D : Dom I S) : LFunc I S := ⟨11, [.tmp 4], .seq (.region [
 (on 3 (.a (.box (.tmp 1)))), (on 4 (.p (.move (ci D 0))))]) (.seq (.region [
 (mv 5 0), (on 6 (.p (.nilchk (.tmp 5)))), (on 7 (.p (.fieldAddr 4 (.tmp 6)))), (on 8 (.r (.load false 1 (.tmp 7)))), (on 9 (.p (.mkfunc 247 [] [(.tmp 3)]))), (on 10 (.call (.const (.func 246 [] [])) [(.tmp 8), (.tmp 9)])), (mv 4 10)]) (.ret))⟩
theorem lf209_eq (D : Dom I S) : trFunc D (tyFn D) Tryz.f209 = some (lf209 D) := by kernel_rfl
noncomputable def lf210 (D : Dom I S) : LFunc I S := ⟨25, [.tmp 4], .seq (.region [
 (on 4 (.p (.move (ci D 0))))]) (.seq (.block 0 (.seq (.region [
 (mv 6 0), (on 7 (.r (.eqRef .ptr false (.tmp 6) (.const .nilp)))), (mv 5 7)]) (.cond (.tmp 5) (.seq (.region [
 (on 4 (.p (.move (ci D 1))))]) (.ret)) (.seq (.region [
 (mv 9 1), (on 10 (.p (.bin .lss (.tmp 9) (ci D 0)))), (mv 11 10), ⟨⟨some 12, some (some 11, false), .p (.move (.tmp 1))⟩, []⟩,
 ⟨⟨some 13, some (some 11, false), .p (.move (.tmp 0))⟩, []⟩,
 ⟨⟨some 14, some (some 11, false), .p (.nilchk (.tmp 13))⟩, []⟩,
 ⟨⟨some 15, some (some 11, false), .p (.fieldAddr 3 (.tmp 14))⟩, []⟩,
 ⟨⟨some 16, some (some 11, false), .call (.const (.func 38 [] [])) [(.tmp 15)]⟩, []⟩,
 ⟨⟨some 17, some (some 11, false), .p (.bin .gtr (.tmp 12) (.tmp 16))⟩, []⟩, (on 18 (.p (.pick (.tmp 11) (.const (.bool true)) (.tmp 17)))), (mv 8 18)]) (.cond (.tmp 8) (.seq (.region [
 (on 4 (.p (.move (ci D 1000))))]) (.ret)) (.skip)))))) (.seq (.region [
 (mv 19 0), (on 20 (.p (.nilchk (.tmp 19)))), (on 21 (.p (.fieldAddr 3 (.tmp 20)))), (mv 22 1), (on 23 (.p (.un .neg (.tmp 22)))), (on 24 (.call (.const (.func 39 [] [])) [(.tmp 21), (.tmp 23)]))]) (.seq (.region [
 (on 4 (.p (.move (ci D 0))))]) (.ret))))⟩
theorem lf210_eq (D : Dom I S) : trFunc D (tyFn D) Tryz.f210 = some (lf210 D) := by kernel_rfl
noncomputable def lf211 (D : Dom I S) : LFunc I S := ⟨36, [], .seq (.region [
 (on 4 (.a (.box (.tmp 1))))]) (.seq (.region [
 (mv 7 0), (mv 8 0), (on 9 (.p (.nilchk (.tmp 8)))), (on 10 (.p (.fieldAddr 5 (.tmp 9)))), (on 11 (.r (.load false 1 (.tmp 10)))), (on 12 (.r (.load true 2 (.tmp 4)))), (mv 13 2), (on 14 (.p (.build [(vi D 0), (vi D 0), (.bool false)] [(0, 2, (.tmp 12)), (2, 1, (.tmp 13))]))), (on 15 (.a (.bslice [(vi D 0), (vi D 0), (.bool false)] 1 3 [(0, (.tmp 14))]))), (on 16 (.e (.append 3 24 (.tmp 11) (.tmp 15)))), (on 17 (.p (.nilchk (.tmp 7)))), (on 18 (.p (.fieldAddr 5 (.tmp 17)))), ⟨⟨none, none, .e (.store 1 (.tmp 18) (.tmp 16))⟩, []⟩]) (.seq (.region [
 (mv 19 0), (on 20 (.r (.load true 2 (.tmp 4)))), (on 21 (.call (.const (.func 214 [] [])) [(.tmp 19), (.tmp 20)])), (mv 6 21)]) (.seq (.region [
 (mv 22 2)]) (.cond (.tmp 22) (.seq (.region [
 (mv 23 0), (on 24 (.p (.nilchk (.tmp 23)))), (on 25 (.p (.fieldAddr 2 (.tmp 24)))), (on 26 (.r (.load false 1 (.tmp 25)))), (mv 27 6), (on 28 (.call (.const (.func 138 [] [])) [(.tmp 26), (.tmp 27)]))]) (.region [(mv 29 0), (on 30 (.p (.nilchk (.tmp 29)))), (on 31 (.p (.fieldAddr 6 (.tmp 30)))), (on 32 (.r (.load false 1 (.tmp 31)))), (on 33 (.p (.bin .add (.tmp 32) (ci D 1)))), (on 34 (.p (.nilchk (.tmp 29)))), (on 35 (.p (.fieldAddr 6 (.tmp 34)))), ⟨⟨none, none, .e (.store 1 (.tmp 35) (.tmp 33))⟩, []⟩])) (.skip)))))⟩
theorem lf211_eq (D : Dom I S) : trFunc D (tyFn D) Tryz.f211 = some (lf211 D) := by kernel_rfl
noncomputable def lf212 (D : Dom I S) : LFunc I S := ⟨19, [.tmp 4], .seq (.region [
 (on 4 (.p (.move (ci D 0))))]) (.seq (.seq (.region [
 (mv 6 0), (on 7 (.p (.len (.tmp 6)))), (on 8 (.p (.move (ci D 0))))]) (.block 0 (.loop (.seq (.region [
 (on 9 (.p (.bin .lss (.tmp 8) (.tmp 7))))]) (.seq (.cond (.tmp 9) (.skip) (.exit 0)) (.seq (.block 1 (.seq (.region [
 (mv 10 8), (mv 5 10)]) (.seq (.region [
 (mv 11 1), (mv 12 0), (mv 13 5), (on 14 (.p (.idxSl 1 (.tmp 12) (.tmp 13)))), (on 15 (.r (.load false 1 (.tmp 14)))), (on 16 (.call (.tmp 11) [(.tmp 15)]))]) (.cond (.tmp 16) (.seq (.region [
 (mv 17 5), (mv 4 17)]) (.ret)) (.skip))))) (.region [(on 18 (.p (.bin .add (.tmp 8) (ci D 1)))), (mv 8 18)]))))))) (.seq (.region [
 (on 4 (.p (.move (.const (.int .i64 (D.ofInt (.negSucc 0)))))))]) (.ret)))⟩
theorem lf212_eq (D : Dom I S) : trFunc D (tyFn D) Tryz.f212 = some (lf212 D) := by kernel_rfl
noncomputable def lf213 (D : Dom I S) : LFunc I S := ⟨23, [.tmp 4], .seq (.region [
 (on 3 (.a (.box (.tmp 1)))), (on 4 (.p (.move (.const (.bool false)))))]) (.seq (.region [
 (on 8 (.r (.load true 9 (.tmp 3)))), (on 9 (.call (.const (.func 58 [] [])) [(.tmp 8)])), (mv 7 9), (on 10 (.p (.extract 0 (.tmp 7)))), (on 11 (.p (.extract 1 (.tmp 7)))), (mv 5 10), (mv 6 11)]) (.seq (.region [
 (mv 12 6), (on 13 (.p (.bin .eql (.tmp 12) (ci D 0)))), (mv 14 13), ⟨⟨some 15, some (some 14, true), .p (.move (.tmp 0))⟩, []⟩,
 ⟨⟨some 16, some (some 14, true), .p (.nilchk (.tmp 15))⟩, []⟩,
 ⟨⟨some 17, some (some 14, true), .p (.fieldAddr 1 (.tmp 16))⟩, []⟩,
 ⟨⟨some 18, some (some 14, true), .r (.load false 1 (.tmp 17))⟩, []⟩,
 ⟨⟨some 19, some (some 14, true), .p (.move (.tmp 5))⟩, []⟩,
 ⟨⟨some 20, some (some 14, true), .call (.const (.func 59 [] [])) [(.tmp 18), (.tmp 19)]⟩, []⟩,
 ⟨⟨some 21, some (some 14, true), .p (.bin .eql (.tmp 20) (ci D 0))⟩, []⟩, (on 22 (.p (.pick (.tmp 14) (.tmp 21) (.const (.bool false))))), (mv 4 22)]) (.ret)))⟩
theorem lf213_eq (D : Dom I S) : trFunc D (tyFn D) Tryz.f213 = some (lf213 D) := by kernel_rfl
noncomputable def lf214 (D : Dom I S) : LFunc I S := ⟨36, [.tmp 4], .seq (.region [
 (on 3 (.a (.box (.tmp 1)))), (on 4 (.p (.move (.const .nils))))]) (.seq (.region [
 (mv 7 0), (on 8 (.r (.load true 2 (.tmp 3)))), (on 9 (.call (.const (.func 209 [] [])) [(.tmp 7), (.tmp 8)])), (mv 5 9)]) (.seq (.region [
 (mv 10 0), (on 11 (.p (.nilchk (.tmp 10)))), (on 12 (.p (.fieldAddr 4 (.tmp 11)))), (on 13 (.r (.load false 1 (.tmp 12)))), (mv 14 5), (on 15 (.p (.idxSl 4 (.tmp 13) (.tmp 14)))), (on 16 (.p (.fieldAddr 2 (.tmp 15)))), (on 17 (.r (.load false 1 (.tmp 16)))), (mv 6 17)]) (.seq (.region [
 (mv 18 0), (mv 19 0), (on 20 (.p (.nilchk (.tmp 19)))), (on 21 (.p (.fieldAddr 4 (.tmp 20)))), (on 22 (.r (.load false 1 (.tmp 21)))), (mv 23 5), (mv 24 5), (on 25 (.p (.bin .add (.tmp 24) (ci D 1)))), (on 26 (.call (.const (.func 248 [] [])) [(.tmp 22), (.tmp 23), (.tmp 25)])), (on 27 (.p (.nilchk (.tmp 18)))), (on 28 (.p (.fieldAddr 4 (.tmp 27)))), ⟨⟨none, none, .e (.store 1 (.tmp 28) (.tmp 26))⟩, []⟩]) (.seq (.region [
 (mv 29 0), (on 30 (.p (.nilchk (.tmp 29)))), (on 31 (.p (.fieldAddr 3 (.tmp 30)))), (on 32 (.r (.load false 1 (.tmp 31)))), (on 33 (.r (.load true 2 (.tmp 3)))), (on 34 (.call (.const (.func 249 [] [])) [(.tmp 32), (.tmp 33)]))]) (.seq (.region [
 (mv 35 6), (mv 4 35)]) (.ret))))))⟩
theorem lf214_eq (D : Dom I S) : trFunc D (tyFn D) Tryz.f214 = some (lf214 D) := by kernel_rfl
noncomputable def lf217 (D : Dom I S) : LFunc I S := ⟨56, [.cell 4 true 2], .seq (.region [
 (on 4 (.a (.box (.const (.agg [(.int .u64 (D.ofInt (.ofNat 0))), (.int .u64 (D.ofInt (.ofNat 0)))])))))]) (.seq (.region [
 (mv 13 0), (on 14 (.p (.bin .and (.tmp 13) (.const (.int .u64 (D.ofInt (.ofNat 4294967295))))))), (mv 15 0), (on 16 (.p (.bin .shr (.tmp 15) (.const (.int .u64 (D.ofInt (.ofNat 32))))))), (mv 17 1), (on 18 (.p (.bin .and (.tmp 17) (.const (.int .u64 (D.ofInt (.ofNat 4294967295))))))), (mv 19 1), (on 20 (.p (.bin .shr (.tmp 19) (.const (.int .u64 (D.ofInt (.ofNat 32))))))), (mv 5 14), (mv 6 16), (mv 7 18), (mv 8 20)]) (.seq (.region [
 (mv 21 5), (mv 22 7), (on 23 (.p (.bin .mul (.tmp 21) (.tmp 22)))), (mv 9 23)]) (.seq (.region [
 (mv 24 6), (mv 25 7), (on 26 (.p (.bin .mul (.tmp 24) (.tmp 25)))), (mv 27 5), (mv 28 8), (on 29 (.p (.bin .mul (.tmp 27) (.tmp 28)))), (mv 10 26), (mv 11 29)]) (.seq (.region [
 (mv 30 9), (on 31 (.p (.bin .shr (.tmp 30) (.const (.int .u64 (D.ofInt (.ofNat 32))))))), (mv 32 10), (on 33 (.p (.bin .and (.tmp 32) (.const (.int .u64 (D.ofInt (.ofNat 4294967295))))))), (on 34 (.p (.bin .add (.tmp 31) (.tmp 33)))), (mv 35 11), (on 36 (.p (.bin .and (.tmp 35) (.const (.int .u64 (D.ofInt (.ofNat 4294967295))))))), (on 37 (.p (.bin .add (.tmp 34) (.tmp 36)))), (mv 12 37)]) (.seq (.region [
 (mv 38 6), (mv 39 8), (on 40 (.p (.bin .mul (.tmp 38) (.tmp 39)))), (mv 41 10), (on 42 (.p (.bin .shr (.tmp 41) (.const (.int .u64 (D.ofInt (.ofNat 32))))))), (on 43 (.p (.bin .add (.tmp 40) (.tmp 42)))), (mv 44 11), (on 45 (.p (.bin .shr (.tmp 44) (.const (.int .u64 (D.ofInt (.ofNat 32))))))), (on 46 (.p (.bin .add (.tmp 43) (.tmp 45)))), (mv 47 12), (on 48 (.p (.bin .shr (.tmp 47) (.const (.int .u64 (D.ofInt (.ofNat 32))))))), (on 49 (.p (.bin .add (.tmp 46) (.tmp 48)))), (mv 50 12), (on 51 (.p (.bin .shl (.tmp 50) (.const (.int .u64 (D.ofInt (.ofNat 32))))))), (mv 52 9), (on 53 (.p (.bin .and (.tmp 52) (.const (.int .u64 (D.ofInt (.ofNat 4294967295))))))), (on 54 (.p (.bin .or (.tmp 51) (.tmp 53)))), (on 55 (.p (.build [(.int .u64 (D.ofInt (.ofNat 0))), (.int .u64 (D.ofInt (.ofNat 0)))] [(0, 1, (.tmp 49)), (1, 1, (.tmp 54))]))), ⟨⟨none, none, .e (.store 2 (.tmp 4) (.tmp 55))⟩, []⟩]) (.ret))))))⟩
theorem lf217_eq (D : Dom I S) : trFunc D (tyFn D) Tryz.f217 = some (lf217 D) := by kernel_rfl
noncomputable def lf219 (D : Dom I S) : LFunc I S := ⟨9, [.tmp 2], .seq (.region [
 (on 2 (.p (.move (.const (.bool false)))))]) (.seq (.region [
 (mv 3 0), (on 4 (.p (.bin .geq (.tmp 3) (ci D 0)))), (mv 5 4), ⟨⟨some 6, some (some 5, true), .p (.move (.tmp 0))⟩, []⟩,
 ⟨⟨some 7, some (some 5, true), .p (.bin .leq (.tmp 6) (ci D 4294967295))⟩, []⟩, (on 8 (.p (.pick (.tmp 5) (.tmp 7) (.const (.bool false))))), (mv 2 8)]) (.ret))⟩
theorem lf219_eq (D : Dom I S) : trFunc D (tyFn D) Tryz.f219 = some (lf219 D) := by kernel_rfl
noncomputable def lf220 (D : Dom I S) : LFunc I S := ⟨29, [.tmp 2], .seq (.region [
 (on 2 (.p (.move (.const .nils))))]) (.seq (.region [
 (on 3 (.p (.move (.const .nils))))]) (.seq (.seq (.region [
 (mv 6 0), (on 7 (.p (.nilchk (.tmp 6)))), (on 8 (.p (.fieldAddr 18 (.tmp 7)))), (on 9 (.r (.load false 1 (.tmp 8)))), (on 10 (.p (.len (.tmp 9)))), (on 11 (.p (.move (ci D 0))))]) (.block 0 (.loop (.seq (.region [
 (on 12 (.p (.bin .lss (.tmp 11) (.tmp 10))))]) (.seq (.cond (.tmp 12) (.skip) (.exit 0)) (.seq (.block 1 (.seq (.region [
 (on 13 (.p (.idxSl 1 (.tmp 9) (.tmp 11)))), (on 14 (.r (.load false 1 (.tmp 13)))), (mv 5 14)]) (.region [(mv 15 3), (mv 16 0), (on 17 (.p (.nilchk (.tmp 16)))), (on 18 (.p (.fieldAddr 17 (.tmp 17)))), (on 19 (.r (.load false 1 (.tmp 18)))), (mv 20 5), (on 21 (.r (.lookup 0 (.agg [(vi D 0), (vi D 0), (vi D 0), (vi D 0), (vi D 0), (vi D 0), (.bool false), (vi D 0), (vi D 0), (.bool false), (vi D 0), (vi D 0), (vi D 0), (vi D 0), .nils, .nils]) false (.tmp 19) (.tmp 20)))), (on 22 (.p (.field false 15 1 (.tmp 21)))), (on 23 (.e (.append 3 40 (.tmp 15) (.tmp 22)))), (mv 3 23)]))) (.region [(on 24 (.p (.bin .add (.tmp 11) (ci D 1)))), (mv 11 24)]))))))) (.seq (.region [
 (mv 25 3), (on 26 (.call (.const (.func 250 [] [])) [(.tmp 25), (.const (.func 251 [] []))]))]) (.seq (.region [
 (mv 27 3), (on 28 (.call (.const (.func 253 [] [])) [(.tmp 27), (.const (.func 254 [] []))])), (mv 2 28)]) (.ret)))))⟩
theorem lf220_eq (D : Dom I S) : trFunc D (tyFn D) Tryz.f220 = some (lf220 D) := by kernel_rfl
noncomputable def lf224 (D : Dom I S) : LFunc I S := ⟨41, [.tmp 4], .seq (.region [
 (on 3 (.a (.box (.tmp 1)))), (on 4 (.p (.move (.const .nils))))]) (.seq (.region [
 (on 5 (.p (.move (.const .nils))))]) (.seq (.seq (.region [
 (mv 8 0), (on 9 (.p (.nilchk (.tmp 8)))), (on 10 (.p (.fieldAddr 1 (.tmp 9)))), (on 11 (.r (.load false 1 (.tmp 10)))), (on 12 (.p (.len (.tmp 11)))), (on 13 (.p (.move (ci D 0))))]) (.block 0 (.loop (.seq (.region [
 (on 14 (.p (.bin .lss (.tmp 13) (.tmp 12))))]) (.seq (.cond (.tmp 14) (.skip) (.exit 0)) (.seq (.block 1 (.seq (.region [
 (on 15 (.p (.idxSl 7 (.tmp 11) (.tmp 13)))), (on 16 (.r (.load true 7 (.tmp 15)))), (on 7 (.a (.box (.const (.agg [(vi D 0), (vi D 0), (vi D 0), (vi D 0), (vi D 0), .nilp, (.bool false)]))))), ⟨⟨none, none, .e (.store 7 (.tmp 7) (.tmp 16))⟩, []⟩]) (.block 2 (.seq (.region [
 (on 24 (.p (.fieldAddr 0 (.tmp 7)))), (on 25 (.r (.load true 4 (.tmp 24)))), (on 26 (.r (.load true 4 (.tmp 3)))), (on 27 (.call (.const (.func 258 [] [])) [(.tmp 25), (.tmp 26)])), (on 28 (.p (.un .not (.tmp 27)))), (mv 23 28)]) (.cond (.tmp 23) (.skip) (.seq (.region [
 (mv 30 0), (on 31 (.p (.nilchk (.tmp 30)))), (on 32 (.p (.fieldAddr 0 (.tmp 31)))), (on 33 (.r (.load false 1 (.tmp 32)))), (mv 29 33)]) (.cond (.tmp 29) (.region [(mv 34 5), (on 35 (.p (.fieldAddr 4 (.tmp 7)))), (on 36 (.r (.load false 1 (.tmp 35)))), (on 37 (.a (.bslice [(vi D 0)] 1 1 [(0, (.tmp 36))]))), (on 38 (.e (.append 1 8 (.tmp 34) (.tmp 37)))), (mv 5 38)]) (.region [(mv 17 5), (on 18 (.p (.fieldAddr 5 (.tmp 7)))), (on 19 (.r (.load false 1 (.tmp 18)))), (on 20 (.r (.load true 4 (.tmp 3)))), (on 21 (.call (.const (.func 224 [] [])) [(.tmp 19), (.tmp 20)])), (on 22 (.e (.append 1 8 (.tmp 17) (.tmp 21)))), (mv 5 22)])))))))) (.region [(on 39 (.p (.bin .add (.tmp 13) (ci D 1)))), (mv 13 39)]))))))) (.seq (.region [
 (mv 40 5), (mv 4 40)]) (.ret))))⟩
theorem lf224_eq (D : Dom I S) : trFunc D (tyFn D) Tryz.f224 = some (lf224 D) := by kernel_rfl
noncomputable def lf225 (D : Dom I S) : LFunc I S := ⟨11, [], .seq (.region [
 (mv 3 0), (on 4 (.p (.len (.tmp 3)))), (mv 2 4)]) (.region [(mv 5 0), (mv 6 2), (mv 7 2), (on 8 (.p (.convInt .u64 (.tmp 7)))), (on 9 (.call (.const (.func 260 [] [])) [(.tmp 8)])), (on 10 (.call (.const (.func 259 [] [])) [(.tmp 5), (ci D 0), (.tmp 6), (.tmp 9)]))])⟩
theorem lf225_eq (D : Dom I S) : trFunc D (tyFn D) Tryz.f225 = some (lf225 D) := by kernel_rfl
noncomputable def lf226 (D : Dom I S) : LFunc I S := ⟨4, [.tmp 2], .seq (.region [
 (on 1 (.a (.box (.tmp 0)))), (on 2 (.p (.move (.const .nilf))))]) (.seq (.region [
 (on 3 (.p (.mkfunc 261 [] [(.tmp 1)]))), (mv 2 3)]) (.ret))⟩
theorem lf226_eq (D : Dom I S) : trFunc D (tyFn D) Tryz.f226 = some (lf226 D) := by kernel_rfl
noncomputable def lf227 (D : Dom I S) : LFunc I S := ⟨39, [.tmp 4], .seq (.region [
 (on 2 (.a (.box (.tmp 0)))), (on 3 (.a (.box (.tmp 1)))), (on 4 (.p (.move (.const (.bool false)))))]) (.seq (.region [
 (on 5 (.r (.load true 2 (.tmp 2)))), (on 6 (.call (.const (.func 176 [] [])) [(.tmp 5)])), (mv 7 6), ⟨⟨some 8, some (some 7, true), .r (.load true 4 (.tmp 3))⟩, []⟩,
 ⟨⟨some 9, some (some 7, true), .call (.const (.func 175 [] [])) [(.tmp 8)]⟩, []⟩, (on 10 (.p (.pick (.tmp 7) (.tmp 9) (.const (.bool false))))), (mv 11 10), ⟨⟨some 12, some (some 11, true), .p (.fieldAddr 0 (.tmp 2))⟩, []⟩,
 ⟨⟨some 13, some (some 11, true), .r (.load false 1 (.tmp 12))⟩, []⟩,
 ⟨⟨some 14, some (some 11, true), .p (.fieldAddr 0 (.tmp 3))⟩, []⟩,
 ⟨⟨some 15, some (some 11, true), .r (.load false 1 (.tmp 14))⟩, []⟩,
 ⟨⟨some 16, some (some 11, true), .p (.bin .geq (.tmp 13) (.tmp 15))⟩, []⟩, (on 17 (.p (.pick (.tmp 11) (.tmp 16) (.const (.bool false))))), (mv 18 17), ⟨⟨some 19, some (some 18, true), .p (.fieldAddr 0 (.tmp 2))⟩, []⟩,
 ⟨⟨some 20, some (some 18, true), .r (.load false 1 (.tmp 19))⟩, []⟩,
 ⟨⟨some 21, some (some 18, true), .p (.fieldAddr 2 (.tmp 3))⟩, []⟩,
 ⟨⟨some 22, some (some 18, true), .r (.load false 1 (.tmp 21))⟩, []⟩,
 ⟨⟨some 23, some (some 18, true), .p (.bin .leq (.tmp 20) (.tmp 22))⟩, []⟩, (on 24 (.p (.pick (.tmp 18) (.tmp 23) (.const (.bool false))))), (mv 25 24), ⟨⟨some 26, some (some 25, true), .p (.fieldAddr 1 (.tmp 2))⟩, []⟩,
 ⟨⟨some 27, some (some 25, true), .r (.load false 1 (.tmp 26))⟩, []⟩,
 ⟨⟨some 28, some (some 25, true), .p (.fieldAddr 1 (.tmp 3))⟩, []⟩,
 ⟨⟨some 29, some (some 25, true), .r (.load false 1 (.tmp 28))⟩, []⟩,
 ⟨⟨some 30, some (some 25, true), .p (.bin .geq (.tmp 27) (.tmp 29))⟩, []⟩, (on 31 (.p (.pick (.tmp 25) (.tmp 30) (.const (.bool false))))), (mv 32 31), ⟨⟨some 33, some (some 32, true), .p (.fieldAddr 1 (.tmp 2))⟩, []⟩,
 ⟨⟨some 34, some (some 32, true), .r (.load false 1 (.tmp 33))⟩, []⟩,
 ⟨⟨some 35, some (some 32, true), .p (.fieldAddr 3 (.tmp 3))⟩, []⟩,
 ⟨⟨some 36, some (some 32, true), .r (.load false 1 (.tmp 35))⟩, []⟩,
 ⟨⟨some 37, some (some 32, true), .p (.bin .leq (.tmp 34) (.tmp 36))⟩, []⟩, (on 38 (.p (.pick (.tmp 32) (.tmp 37) (.const (.bool false))))), (mv 4 38)]) (.ret))⟩
theorem lf227_eq (D : Dom I S) : trFunc D (tyFn D) Tryz.f227 = some (lf227 D) := by kernel_rfl
noncomputable def lf234 (D : Dom I S) : LFunc I S := ⟨5, [.tmp 2], .seq (.region [
 (on 2 (.p (.move (.const .nils))))]) (.seq (.region [
 (mv 3 0), (on 4 (.call (.const (.func 267 [] [])) [(.const .nils), (.tmp 3)])), (mv 2 4)]) (.ret))⟩
theorem lf234_eq (D : Dom I S) : trFunc D (tyFn D) Tryz.f234 = some (lf234 D) := by kernel_rfl
noncomputable def lf235 (D : Dom I S) : LFunc I S := ⟨14, [], .seq (.region [
 (on 4 (.r (.load false 1 (.tmp 1)))), (on 5 (.e (.range (.tmp 4))))]) (.block 0 (.loop (.seq (.region [
 (on 6 (.e (.next (.tmp 5)))), (on 7 (.p (.extract 0 (.tmp 6))))]) (.seq (.cond (.tmp 7) (.skip) (.exit 0)) (.block 1 (.seq (.region [
 (on 8 (.r (.entry (.tmp 5)))), (on 9 (.p (.extract 0 (.tmp 8)))), (mv 3 9)]) (.seq (.region [
 (mv 10 0), (mv 11 3), (on 12 (.call (.tmp 10) [(.tmp 11)])), (on 13 (.p (.un .not (.tmp 12))))]) (.cond (.tmp 13) (.ret) (.skip)))))))))⟩
theorem lf235_eq (D : Dom I S) : trFunc D (tyFn D) Tryz.f235 = some (lf235 D) := by kernel_rfl
noncomputable def lf237 (D : Dom I S) : LFunc I S := ⟨9, [], .region [(mv 4 0), (on 5 (.p (.nilchk (.tmp 4)))), (on 6 (.p (.fieldAddr 0 (.tmp 5)))), (mv 7 1), (on 8 (.call (.const (.func 268 [] [])) [(.tmp 6), (.tmp 7)]))]⟩
theorem lf237_eq (D : Dom I S) : trFunc D (tyFn D) Tryz.f237 = some (lf237 D) := by kernel_rfl
noncomputable def lf238 (D : Dom I S) : LFunc I S := ⟨19, [.tmp 4], .seq (.region [
 (on 4 (.p (.move (ci D 0))))]) (.seq (.seq (.region [
 (mv 6 0), (on 7 (.p (.len (.tmp 6)))), (on 8 (.p (.move (ci D 0))))]) (.block 0 (.loop (.seq (.region [
 (on 9 (.p (.bin .lss (.tmp 8) (.tmp 7))))]) (.seq (.cond (.tmp 9) (.skip) (.exit 0)) (.seq (.block 1 (.seq (.region [
 (mv 10 8), (mv 5 10)]) (.seq (.region [
 (mv 11 1), (mv 12 0), (mv 13 5), (on 14 (.p (.idxSl 3 (.tmp 12) (.tmp 13)))), (on 15 (.r (.load true 3 (.tmp 14)))), (on 16 (.call (.tmp 11) [(.tmp 15)]))]) (.cond (.tmp 16) (.seq (.region [
 (mv 17 5), (mv 4 17)]) (.ret)) (.skip))))) (.region [(on 18 (.p (.bin .add (.tmp 8) (ci D 1)))), (mv 8 18)]))))))) (.seq (.region [
 (on 4 (.p (.move (.const (.int .i64 (D.ofInt (.negSucc 0)))))))]) (.ret)))⟩
theorem lf238_eq (D : Dom I S) : trFunc D (tyFn D) Tryz.f238 = some (lf238 D) := by kernel_rfl
noncomputable def lf239 (D : Dom I S) : LFunc I S := ⟨8, [.tmp 3], .seq (.region [
 (on 2 (.a (.box (.tmp 0)))), (on 3 (.p (.move (.const (.bool false)))))]) (.seq (.region [
 (on 4 (.p (.fieldAddr 0 (.tmp 2)))), (on 5 (.r (.load true 2 (.tmp 4)))), (on 6 (.r (.load true 2 (.tmp 1)))), (on 7 (.p (.eqAgg false 2 (.tmp 5) (.tmp 6)))), (mv 3 7)]) (.ret))⟩
theorem lf239_eq (D : Dom I S) : trFunc D (tyFn D) Tryz.f239 = some (lf239 D) := by kernel_rfl
noncomputable def lf241 (D : Dom I S) : LFunc I S := ⟨34, [.tmp 6], .seq (.region [
 (on 3 (.a (.box (.tmp 0)))), (on 5 (.a (.box (.tmp 2)))), (on 6 (.p (.move (.const (.bool false)))))]) (.seq (.region [
 (on 14 (.r (.load true 3 (.tmp 5)))), (on 15 (.call (.const (.func 242 [] [])) [(.tmp 14)])), (mv 13 15), (on 16 (.p (.extract 0 (.tmp 13)))), (on 17 (.p (.extract 1 (.tmp 13)))), (on 7 (.a (.box (.const (.agg [(vi D 0), (vi D 0), (vi D 0), (vi D 0)]))))), ⟨⟨none, none, .e (.store 4 (.tmp 7) (.tmp 16))⟩, []⟩, (mv 8 17)]) (.seq (.seq (.region [
 (mv 18 8), (on 19 (.p (.bin .neq (.tmp 18) (ci D 0))))]) (.cond (.tmp 19) (.seq (.region [
 (on 6 (.p (.move (.const (.bool false)))))]) (.ret)) (.skip))) (.seq (.region [
 (on 21 (.r (.load true 4 (.tmp 7)))), (on 22 (.call (.const (.func 269 [] [])) [(.tmp 21)])), (mv 20 22), (on 23 (.p (.extract 0 (.tmp 20)))), (on 24 (.p (.extract 1 (.tmp 20)))), (mv 9 23), (mv 10 24)]) (.seq (.region [
 (on 26 (.r (.load true 3 (.tmp 3)))), (mv 27 9), (on 28 (.call (.const (.func 270 [] [])) [(.tmp 26), (.tmp 27)])), (mv 25 28), (on 29 (.p (.extract 0 (.tmp 25)))), (on 30 (.p (.extract 1 (.tmp 25)))), (mv 11 29), (mv 12 30)]) (.seq (.region [
 (mv 31 11), (mv 32 1), (on 33 (.call (.const (.func 271 [] [])) [(.tmp 31), (.tmp 32)])), (mv 6 33)]) (.ret))))))⟩
theorem lf241_eq (D : Dom I S) : trFunc D (tyFn D) Tryz.f241 = some (lf241 D) := by kernel_rfl
noncomputable def lf242 (D : Dom I S) : LFunc I S := ⟨34, [.cell 2 true 4, .tmp 3], .seq (.region [
 (on 1 (.a (.box (.tmp 0)))), (on 2 (.a (.box (.const (.agg [(vi D 0), (vi D 0), (vi D 0), (vi D 0)]))))), (on 3 (.p (.move (ci D 0))))]) (.seq (.seq (.region [
 (on 6 (.r (.load true 3 (.tmp 1)))), (on 7 (.call (.const (.func 137 [] [])) [(.tmp 6)])), (on 8 (.p (.un .not (.tmp 7))))]) (.cond (.tmp 8) (.seq (.region [
 (on 9 (.p (.build [(vi D 0), (vi D 0), (vi D 0), (vi D 0)] []))), ⟨⟨none, none, .e (.store 4 (.tmp 2) (.tmp 9))⟩, []⟩, (on 3 (.p (.move (ci D 400))))]) (.ret)) (.skip))) (.seq (.region [
 (on 10 (.p (.fieldAddr 2 (.tmp 1)))), (on 11 (.r (.load false 1 (.tmp 10)))), (on 12 (.p (.idxSl 1 (.tmp 11) (ci D 0)))), (on 13 (.r (.load false 1 (.tmp 12)))), (on 14 (.p (.idxSl 2 (.tmp 13) (ci D 0)))), (on 15 (.r (.load true 2 (.tmp 14)))), (on 16 (.p (.fieldAddr 2 (.tmp 1)))), (on 17 (.r (.load false 1 (.tmp 16)))), (on 18 (.p (.idxSl 1 (.tmp 17) (ci D 0)))), (on 19 (.r (.load false 1 (.tmp 18)))), (on 20 (.p (.idxSl 2 (.tmp 19) (ci D 0)))), (on 21 (.r (.load true 2 (.tmp 20)))), (on 22 (.call (.const (.func 272 [] [])) [(.tmp 15), (.tmp 21)])), (on 4 (.a (.box (.const (.agg [(vi D 0), (vi D 0), (vi D 0), (vi D 0)]))))), ⟨⟨none, none, .e (.store 4 (.tmp 4) (.tmp 22))⟩, []⟩]) (.seq (.seq (.region [
 (on 23 (.call (.const (.func 226 [] [])) [(.tmp 1)]))]) (.block 0 (.rangef (.tmp 23) [24] (.region [(on 5 (.a (.box (.const (.agg [(vi D 0), (vi D 0)]))))), ⟨⟨none, none, .e (.store 2 (.tmp 5) (.tmp 24))⟩, []⟩]) (.block 1 (.region [(on 26 (.r (.load true 4 (.tmp 4)))), (on 27 (.r (.load true 2 (.tmp 5)))), (on 28 (.r (.load true 2 (.tmp 5)))), ⟨⟨some 29, none, .call (.const (.func 272 [] [])) [(.tmp 27), (.tmp 28)]⟩, [⟨some 26, none, .r (.load true 4 (.tmp 4))⟩]⟩, (on 30 (.call (.const (.func 273 [] [])) [(.tmp 26), (.tmp 29)])), (mv 25 30), (on 31 (.p (.extract 0 (.tmp 25)))), (on 32 (.p (.extract 1 (.tmp 25)))), ⟨⟨none, none, .e (.store 4 (.tmp 4) (.tmp 31))⟩, []⟩]))))) (.seq (.region [
 (on 33 (.r (.load true 4 (.tmp 4)))), ⟨⟨none, none, .e (.store 4 (.tmp 2) (.tmp 33))⟩, []⟩, (on 3 (.p (.move (ci D 0))))]) (.ret)))))⟩
theorem lf242_eq (D : Dom I S) : trFunc D (tyFn D) Tryz.f242 = some (lf242 D) := by kernel_rfl
noncomputable def lf243 (D : Dom I S) : LFunc I S := ⟨55, [.tmp 4], .seq (.region [
 (on 3 (.a (.box (.tmp 1)))), (on 4 (.p (.move (ci D 0))))]) (.seq (.block 0 (.seq (.region [
 (mv 8 0), (on 9 (.r (.eqRef .ptr false (.tmp 8) (.const .nilp)))), (mv 7 9)]) (.cond (.tmp 7) (.seq (.region [
 (on 4 (.p (.move (ci D 1))))]) (.ret)) (.seq (.region [
 (on 11 (.p (.fieldAddr 0 (.tmp 3)))), (on 12 (.r (.load false 1 (.tmp 11)))), (on 13 (.p (.bin .lss (.tmp 12) (ci D 1)))), (mv 14 13), ⟨⟨some 15, some (some 14, false), .p (.fieldAddr 0 (.tmp 3))⟩, []⟩,
 ⟨⟨some 16, some (some 14, false), .r (.load false 1 (.tmp 15))⟩, []⟩,
 ⟨⟨some 17, some (some 14, false), .p (.bin .gtr (.tmp 16) (ci D 65535))⟩, []⟩, (on 18 (.p (.pick (.tmp 14) (.const (.bool true)) (.tmp 17)))), (mv 19 18), ⟨⟨some 20, some (some 19, false), .p (.fieldAddr 1 (.tmp 3))⟩, []⟩,
 ⟨⟨some 21, some (some 19, false), .r (.load true 4 (.tmp 20))⟩, []⟩,
 ⟨⟨some 22, some (some 19, false), .call (.const (.func 175 [] [])) [(.tmp 21)]⟩, []⟩,
 ⟨⟨some 23, some (some 19, false), .p (.un .not (.tmp 22))⟩, []⟩, (on 24 (.p (.pick (.tmp 19) (.const (.bool true)) (.tmp 23)))), (mv 10 24)]) (.cond (.tmp 10) (.seq (.region [
 (on 4 (.p (.move (ci D 1200))))]) (.ret)) (.skip)))))) (.seq (.seq (.region [
 (mv 26 0), (on 27 (.p (.nilchk (.tmp 26)))), (on 28 (.p (.fieldAddr 2 (.tmp 27)))), (on 29 (.r (.load false 1 (.tmp 28)))), (on 30 (.p (.fieldAddr 0 (.tmp 3)))), (on 31 (.r (.load false 1 (.tmp 30)))), (on 32 (.r (.lookup 0 (.agg [(vi D 0), (vi D 0), (vi D 0), (vi D 0)]) true (.tmp 29) (.tmp 31)))), (mv 25 32), (on 33 (.p (.extract 0 (.tmp 25)))), (on 34 (.p (.extract 1 (.tmp 25)))), (on 5 (.a (.box (.const (.agg [(vi D 0), (vi D 0), (vi D 0), (vi D 0)]))))), ⟨⟨none, none, .e (.store 4 (.tmp 5) (.tmp 33))⟩, []⟩, (mv 6 34)]) (.seq (.region [
 (mv 35 6)]) (.cond (.tmp 35) (.region [(mv 36 0), (on 37 (.p (.fieldAddr 0 (.tmp 3)))), (on 38 (.r (.load false 1 (.tmp 37)))), (on 39 (.call (.const (.func 274 [] [])) [(.tmp 36), (.tmp 38)]))]) (.skip)))) (.seq (.region [
 (mv 40 0), (on 41 (.p (.nilchk (.tmp 40)))), (on 42 (.p (.fieldAddr 2 (.tmp 41)))), (on 43 (.r (.load false 1 (.tmp 42)))), (on 44 (.p (.fieldAddr 0 (.tmp 3)))), (on 45 (.r (.load false 1 (.tmp 44)))), (on 46 (.p (.fieldAddr 1 (.tmp 3)))), (on 47 (.r (.load true 4 (.tmp 46)))), ⟨⟨none, none, .e (.mapset 0 (.tmp 43) (.tmp 45) (.tmp 47))⟩, []⟩]) (.seq (.region [
 (mv 48 0), (on 49 (.p (.fieldAddr 1 (.tmp 3)))), (on 50 (.r (.load true 4 (.tmp 49)))), (on 51 (.p (.fieldAddr 0 (.tmp 3)))), (on 52 (.r (.load false 1 (.tmp 51)))), (on 53 (.p (.build [(vi D 0), (vi D 0), (vi D 0), (vi D 0), (vi D 0), .nilp, (.bool false)] [(0, 4, (.tmp 50)), (4, 1, (.tmp 52))]))), (on 54 (.call (.const (.func 275 [] [])) [(.tmp 48), (.tmp 53)]))]) (.seq (.region [
 (on 4 (.p (.move (ci D 0))))]) (.ret))))))⟩
theorem lf243_eq (D : Dom I S) : trFunc D (tyFn D) Tryz.f243 = some (lf243 D) := by kernel_rfl
noncomputable def lf245 (D : Dom I S) : LFunc I S := ⟨19, [.tmp 4], .seq (.region [
 (on 3 (.a (.box (.tmp 1)))), (on 4 (.p (.move (ci D 0))))]) (.seq (.seq (.region [
 (mv 6 0), (on 7 (.p (.len (.tmp 6)))), (on 8 (.p (.move (ci D 0))))]) (.block 0 (.loop (.seq (.region [
 (on 9 (.p (.bin .lss (.tmp 8) (.tmp 7))))]) (.seq (.cond (.tmp 9) (.skip) (.exit 0)) (.seq (.block 1 (.seq (.region [
 (mv 10 8), (mv 5 10)]) (.seq (.region [
 (on 11 (.r (.load true 2 (.tmp 3)))), (mv 12 0), (mv 13 5), (on 14 (.p (.idxSl 2 (.tmp 12) (.tmp 13)))), (on 15 (.r (.load true 2 (.tmp 14)))), (on 16 (.p (.eqAgg false 2 (.tmp 11) (.tmp 15))))]) (.cond (.tmp 16) (.seq (.region [
 (mv 17 5), (mv 4 17)]) (.ret)) (.skip))))) (.region [(on 18 (.p (.bin .add (.tmp 8) (ci D 1)))), (mv 8 18)]))))))) (.seq (.region [
 (on 4 (.p (.move (.const (.int .i64 (D.ofInt (.negSucc 0)))))))]) (.ret)))⟩
theorem lf245_eq (D : Dom I S) : trFunc D (tyFn D) Tryz.f245 = some (lf245 D) := by kernel_rfl
noncomputable def lf246 (D : Dom I S) : LFunc I S := ⟨19, [.tmp 4], .seq (.region [
 (on 4 (.p (.move (ci D 0))))]) (.seq (.seq (.region [
 (mv 6 0), (on 7 (.p (.len (.tmp 6)))), (on 8 (.p (.move (ci D 0))))]) (.block 0 (.loop (.seq (.region [
 (on 9 (.p (.bin .lss (.tmp 8) (.tmp 7))))]) (.seq (.cond (.tmp 9) (.skip) (.exit 0)) (.seq (.block 1 (.seq (.region [
 (mv 10 8), (mv 5 10)]) (.seq (.region [
 (mv 11 1), (mv 12 0), (mv 13 5), (on 14 (.p (.idxSl 4 (.tmp 12) (.tmp 13)))), (on 15 (.r (.load true 4 (.tmp 14)))), (on 16 (.call (.tmp 11) [(.tmp 15)]))]) (.cond (.tmp 16) (.seq (.region [
 (mv 17 5), (mv 4 17)]) (.ret)) (.skip))))) (.region [(on 18 (.p (.bin .add (.tmp 8) (ci D 1)))), (mv 8 18)]))))))) (.seq (.region [
 (on 4 (.p (.move (.const (.int .i64 (D.ofInt (.negSucc 0)))))))]) (.ret)))⟩
theorem lf246_eq (D : Dom I S) : trFunc D (tyFn D) Tryz.f246 = some (lf246 D) := by kernel_rfl
noncomputable def lf247 (D : Dom I S) : LFunc I S := ⟨8, [.tmp 3], .seq (.region [
 (on 2 (.a (.box (.tmp 0)))), (on 3 (.p (.move (.const (.bool false)))))]) (.seq (.region [
 (on 4 (.p (.fieldAddr 0 (.tmp 2)))), (on 5 (.r (.load true 2 (.tmp 4)))), (on 6 (.r (.load true 2 (.tmp 1)))), (on 7 (.p (.eqAgg false 2 (.tmp 5) (.tmp 6)))), (mv 3 7)]) (.ret))⟩
theorem lf247_eq (D : Dom I S) : trFunc D (tyFn D) Tryz.f247 = some (lf247 D) := by kernel_rfl
noncomputable def lf248 (D : Dom I S) : LFunc I S := ⟨33, [.tmp 6], .seq (.region [
 (on 6 (.p (.move (.const .nils))))]) (.seq (.region [
 (mv 8 0), (mv 9 1), (mv 10 2), (mv 11 0), (on 12 (.p (.len (.tmp 11)))), (on 13 (.p (.slSl 4 (.tmp 8) (some (.tmp 9)) (some (.tmp 10)) (some (.tmp 12)))))]) (.seq (.seq (.region [
 (mv 14 1), (mv 15 2), (on 16 (.p (.bin .eql (.tmp 14) (.tmp 15))))]) (.cond (.tmp 16) (.seq (.region [
 (mv 17 0), (mv 6 17)]) (.ret)) (.skip))) (.seq (.region [
 (mv 18 0), (on 19 (.p (.len (.tmp 18)))), (mv 7 19)]) (.seq (.region [
 (mv 20 0), (mv 21 1), (on 22 (.p (.slSl 4 (.tmp 20) none (some (.tmp 21)) none))), (mv 23 0), (mv 24 2), (on 25 (.p (.slSl 4 (.tmp 23) (some (.tmp 24)) none none))), (on 26 (.e (.append 4 48 (.tmp 22) (.tmp 25)))), (mv 0 26)]) (.seq (.region [
 (mv 27 0), (mv 28 0), (on 29 (.p (.len (.tmp 28)))), (mv 30 7), (on 31 (.p (.slSl 4 (.tmp 27) (some (.tmp 29)) (some (.tmp 30)) none))), ⟨⟨none, none, .e (.clear [(vi D 0), (vi D 0), .nils, (vi D 0)] (.tmp 31))⟩, []⟩]) (.seq (.region [
 (mv 32 0), (mv 6 32)]) (.ret)))))))⟩
theorem lf248_eq (D : Dom I S) : trFunc D (tyFn D) Tryz.f248 = some (lf248 D) := by kernel_rfl
noncomputable def lf249 (D : Dom I S) : LFunc I S := ⟨40, [], .seq (.region [
 (on 3 (.a (.box (.tmp 1))))]) (.seq (.seq (.region [
 (mv 6 0), (on 7 (.r (.eqRef .ptr false (.tmp 6) (.const .nilp))))]) (.cond (.tmp 7) (.ret) (.skip))) (.seq (.seq (.region [
 (mv 8 0), (on 9 (.p (.nilchk (.tmp 8)))), (on 10 (.p (.fieldAddr 0 (.tmp 9)))), (on 11 (.r (.load false 1 (.tmp 10)))), (on 12 (.e (.range (.tmp 11))))]) (.block 0 (.loop (.seq (.region [
 (on 13 (.e (.next (.tmp 12)))), (on 14 (.p (.extract 0 (.tmp 13))))]) (.seq (.cond (.tmp 14) (.skip) (.exit 0)) (.block 1 (.seq (.region [
 (on 15 (.r (.entry (.tmp 12)))), (on 16 (.p (.extract 0 (.tmp 15)))), (on 17 (.p (.extract 1 (.tmp 15)))), (on 5 (.a (.box (.const (.agg [(vi D 0), (vi D 0)]))))), (mv 4 16), ⟨⟨none, none, .e (.store 2 (.tmp 5) (.tmp 17))⟩, []⟩]) (.seq (.region [
 (on 18 (.r (.load true 2 (.tmp 5)))), (on 19 (.r (.load true 2 (.tmp 3)))), (on 20 (.p (.eqAgg false 2 (.tmp 18) (.tmp 19))))]) (.cond (.tmp 20) (.region [(mv 21 0), (on 22 (.p (.nilchk (.tmp 21)))), (on 23 (.p (.fieldAddr 0 (.tmp 22)))), (on 24 (.r (.load false 1 (.tmp 23)))), (mv 25 4), ⟨⟨none, none, .e (.delete 0 (.tmp 24) (.tmp 25))⟩, []⟩]) (.skip)))))))))) (.seq (.region [
 (mv 26 0), (on 27 (.p (.nilchk (.tmp 26)))), (on 28 (.p (.fieldAddr 1 (.tmp 27)))), (on 29 (.r (.load false 1 (.tmp 28)))), (on 30 (.r (.load true 2 (.tmp 3)))), ⟨⟨none, none, .e (.delete 2 (.tmp 29) (.tmp 30))⟩, []⟩]) (.region [(mv 31 0), (mv 32 0), (on 33 (.p (.nilchk (.tmp 32)))), (on 34 (.p (.fieldAddr 2 (.tmp 33)))), (on 35 (.r (.load false 1 (.tmp 34)))), (on 36 (.p (.mkfunc 277 [] [(.tmp 3)]))), (on 37 (.call (.const (.func 276 [] [])) [(.tmp 35), (.tmp 36)])), (on 38 (.p (.nilchk (.tmp 31)))), (on 39 (.p (.fieldAddr 2 (.tmp 38)))), ⟨⟨none, none, .e (.store 1 (.tmp 39) (.tmp 37))⟩, []⟩]))))⟩
theorem lf249_eq (D : Dom I S) : trFunc D (tyFn D) Tryz.f249 = some (lf249 D) := by kernel_rfl
noncomputable def lf250 (D : Dom I S) : LFunc I S := ⟨9, [], .region [(mv 4 0), (mv 5 0), (on 6 (.p (.len (.tmp 5)))), (mv 7 1), (on 8 (.call (.const (.func 278 [] [])) [(.tmp 4), (.tmp 6), (.tmp 7)]))]⟩
theorem lf250_eq (D : Dom I S) : trFunc D (tyFn D) Tryz.f250 = some (lf250 D) := by kernel_rfl
noncomputable def lf253 (D : Dom I S) : LFunc I S := ⟨66, [.tmp 4], .seq (.region [
 (on 4 (.p (.move (.const .nils))))]) (.seq (.seq (.region [
 (mv 8 0), (on 9 (.p (.len (.tmp 8)))), (on 10 (.p (.bin .lss (.tmp 9) (ci D 2))))]) (.cond (.tmp 10) (.seq (.region [
 (mv 11 0), (mv 4 11)]) (.ret)) (.skip))) (.seq (.seq (.region [
 (on 5 (.p (.move (ci D 1))))]) (.block 0 (.loop (.seq (.seq (.region [
 (mv 12 5), (mv 13 0), (on 14 (.p (.len (.tmp 13)))), (on 15 (.p (.bin .lss (.tmp 12) (.tmp 14))))]) (.cond (.tmp 15) (.skip) (.exit 0))) (.seq (.block 1 (.seq (.region [
 (mv 18 1), (mv 19 0), (mv 20 5), (on 21 (.p (.idxSl 3 (.tmp 19) (.tmp 20)))), (on 22 (.r (.load true 3 (.tmp 21)))), (mv 23 0), (mv 24 5), (on 25 (.p (.bin .sub (.tmp 24) (ci D 1)))), (on 26 (.p (.idxSl 3 (.tmp 23) (.tmp 25)))), (on 27 (.r (.load true 3 (.tmp 26)))), (on 28 (.call (.tmp 18) [(.tmp 22), (.tmp 27)]))]) (.cond (.tmp 28) (.seq (.region [
 (mv 29 0), (mv 30 5), (on 31 (.p (.slSl 3 (.tmp 29) (some (.tmp 30)) none none))), (mv 6 31)]) (.seq (.seq (.region [
 (on 7 (.p (.move (ci D 1))))]) (.block 2 (.loop (.seq (.seq (.region [
 (mv 32 7), (mv 33 6), (on 34 (.p (.len (.tmp 33)))), (on 35 (.p (.bin .lss (.tmp 32) (.tmp 34))))]) (.cond (.tmp 35) (.skip) (.exit 2))) (.seq (.block 3 (.seq (.region [
 (mv 38 1), (mv 39 6), (mv 40 7), (on 41 (.p (.idxSl 3 (.tmp 39) (.tmp 40)))), (on 42 (.r (.load true 3 (.tmp 41)))), (mv 43 6), (mv 44 7), (on 45 (.p (.bin .sub (.tmp 44) (ci D 1)))), (on 46 (.p (.idxSl 3 (.tmp 43) (.tmp 45)))), (on 47 (.r (.load true 3 (.tmp 46)))), (on 48 (.call (.tmp 38) [(.tmp 42), (.tmp 47)])), (on 49 (.p (.un .not (.tmp 48))))]) (.cond (.tmp 49) (.seq (.region [
 (mv 50 0), (mv 51 5), (mv 52 6), (mv 53 7), (on 54 (.p (.idxSl 3 (.tmp 52) (.tmp 53)))), (on 55 (.r (.load true 3 (.tmp 54)))), (on 56 (.p (.idxSl 3 (.tmp 50) (.tmp 51)))), ⟨⟨none, none, .e (.store 3 (.tmp 56) (.tmp 55))⟩, []⟩]) (.region [(mv 57 5), (on 58 (.p (.bin .add (.tmp 57) (ci D 1)))), (mv 5 58)])) (.skip)))) (.region [(mv 36 7), (on 37 (.p (.bin .add (.tmp 36) (ci D 1)))), (mv 7 37)])))))) (.seq (.region [
 (mv 59 0), (mv 60 5), (on 61 (.p (.slSl 3 (.tmp 59) (some (.tmp 60)) none none))), ⟨⟨none, none, .e (.clear [(vi D 0), (vi D 0), .nils] (.tmp 61))⟩, []⟩]) (.seq (.region [
 (mv 62 0), (mv 63 5), (on 64 (.p (.slSl 3 (.tmp 62) none (some (.tmp 63)) none))), (mv 4 64)]) (.ret))))) (.skip)))) (.region [(mv 16 5), (on 17 (.p (.bin .add (.tmp 16) (ci D 1)))), (mv 5 17)])))))) (.seq (.region [
 (mv 65 0), (mv 4 65)]) (.ret))))⟩
theorem lf253_eq (D : Dom I S) : trFunc D (tyFn D) Tryz.f253 = some (lf253 D) := by kernel_rfl
noncomputable def lf258 (D : Dom I S) : LFunc I S := ⟨39, [.tmp 4], .seq (.region [
 (on 2 (.a (.box (.tmp 0)))), (on 3 (.a (.box (.tmp 1)))), (on 4 (.p (.move (.const (.bool false)))))]) (.seq (.region [
 (on 5 (.r (.load true 4 (.tmp 2)))), (on 6 (.call (.const (.func 175 [] [])) [(.tmp 5)])), (mv 7 6), ⟨⟨some 8, some (some 7, true), .r (.load true 4 (.tmp 3))⟩, []⟩,
 ⟨⟨some 9, some (some 7, true), .call (.const (.func 175 [] [])) [(.tmp 8)]⟩, []⟩, (on 10 (.p (.pick (.tmp 7) (.tmp 9) (.const (.bool false))))), (mv 11 10), ⟨⟨some 12, some (some 11, true), .p (.fieldAddr 0 (.tmp 2))⟩, []⟩,
 ⟨⟨some 13, some (some 11, true), .r (.load false 1 (.tmp 12))⟩, []⟩,
 ⟨⟨some 14, some (some 11, true), .p (.fieldAddr 2 (.tmp 3))⟩, []⟩,
 ⟨⟨some 15, some (some 11, true), .r (.load false 1 (.tmp 14))⟩, []⟩,
 ⟨⟨some 16, some (some 11, true), .p (.bin .leq (.tmp 13) (.tmp 15))⟩, []⟩, (on 17 (.p (.pick (.tmp 11) (.tmp 16) (.const (.bool false))))), (mv 18 17), ⟨⟨some 19, some (some 18, true), .p (.fieldAddr 0 (.tmp 3))⟩, []⟩,
 ⟨⟨some 20, some (some 18, true), .r (.load false 1 (.tmp 19))⟩, []⟩,
 ⟨⟨some 21, some (some 18, true), .p (.fieldAddr 2 (.tmp 2))⟩, []⟩,
 ⟨⟨some 22, some (some 18, true), .r (.load false 1 (.tmp 21))⟩, []⟩,
 ⟨⟨some 23, some (some 18, true), .p (.bin .leq (.tmp 20) (.tmp 22))⟩, []⟩, (on 24 (.p (.pick (.tmp 18) (.tmp 23) (.const (.bool false))))), (mv 25 24), ⟨⟨some 26, some (some 25, true), .p (.fieldAddr 1 (.tmp 2))⟩, []⟩,
 ⟨⟨some 27, some (some 25, true), .r (.load false 1 (.tmp 26))⟩, []⟩,
 ⟨⟨some 28, some (some 25, true), .p (.fieldAddr 3 (.tmp 3))⟩, []⟩,
 ⟨⟨some 29, some (some 25, true), .r (.load false 1 (.tmp 28))⟩, []⟩,
 ⟨⟨some 30, some (some 25, true), .p (.bin .leq (.tmp 27) (.tmp 29))⟩, []⟩, (on 31 (.p (.pick (.tmp 25) (.tmp 30) (.const (.bool false))))), (mv 32 31), ⟨⟨some 33, some (some 32, true), .p (.fieldAddr 1 (.tmp 3))⟩, []⟩,
 ⟨⟨some 34, some (some 32, true), .r (.load false 1 (.tmp 33))⟩, []⟩,
 ⟨⟨some 35, some (some 32, true), .p (.fieldAddr 3 (.tmp 2))⟩, []⟩,
 ⟨⟨some 36, some (some 32, true), .r (.load false 1 (.tmp 35))⟩, []⟩,
 ⟨⟨some 37, some (some 32, true), .p (.bin .leq (.tmp 34) (.tmp 36))⟩, []⟩, (on 38 (.p (.pick (.tmp 32) (.tmp 37) (.const (.bool false))))), (mv 4 38)]) (.ret))⟩
theorem lf258_eq (D : Dom I S) : trFunc D (tyFn D) Tryz.f258 = some (lf258 D) := by kernel_rfl
noncomputable def lf259 (D : Dom I S) : LFunc I S := ⟨134, [], .seq (.region [
 (on 8 (.p (.move (.const (.bool true)))))]) (.seq (.region [
 (on 9 (.p (.move (.const (.bool true)))))]) (.block 0 (.loop (.block 1 (.seq (.region [
 (mv 19 2), (mv 20 1), (on 21 (.p (.bin .sub (.tmp 19) (.tmp 20)))), (mv 10 21)]) (.seq (.seq (.region [
 (mv 22 10), (on 23 (.p (.bin .leq (.tmp 22) (ci D 12))))]) (.cond (.tmp 23) (.seq (.region [
 (mv 24 0), (mv 25 1), (mv 26 2), (on 27 (.call (.const (.func 288 [] [])) [(.tmp 24), (.tmp 25), (.tmp 26)]))]) (.ret)) (.skip))) (.seq (.seq (.region [
 (mv 28 3), (on 29 (.p (.bin .eql (.tmp 28) (ci D 0))))]) (.cond (.tmp 29) (.seq (.region [
 (mv 30 0), (mv 31 1), (mv 32 2), (on 33 (.call (.const (.func 289 [] [])) [(.tmp 30), (.tmp 31), (.tmp 32)]))]) (.ret)) (.skip))) (.seq (.seq (.region [
 (mv 34 8), (on 35 (.p (.un .not (.tmp 34))))]) (.cond (.tmp 35) (.seq (.region [
 (mv 36 0), (mv 37 1), (mv 38 2), (on 39 (.call (.const (.func 290 [] [])) [(.tmp 36), (.tmp 37), (.tmp 38)]))]) (.region [(mv 40 3), (on 41 (.p (.bin .sub (.tmp 40) (ci D 1)))), (mv 3 41)])) (.skip))) (.seq (.region [
 (mv 43 0), (mv 44 1), (mv 45 2), (on 46 (.call (.const (.func 291 [] [])) [(.tmp 43), (.tmp 44), (.tmp 45)])), (mv 42 46), (on 47 (.p (.extract 0 (.tmp 42)))), (on 48 (.p (.extract 1 (.tmp 42)))), (mv 11 47), (mv 12 48)]) (.seq (.seq (.region [
 (mv 49 12), (on 50 (.p (.bin .eql (.tmp 49) (ci D 2))))]) (.cond (.tmp 50) (.seq (.region [
 (mv 51 0), (mv 52 1), (mv 53 2), (on 54 (.call (.const (.func 292 [] [])) [(.tmp 51), (.tmp 52), (.tmp 53)]))]) (.seq (.region [
 (mv 55 2), (on 56 (.p (.bin .sub (.tmp 55) (ci D 1)))), (mv 57 11), (mv 58 1), (on 59 (.p (.bin .sub (.tmp 57) (.tmp 58)))), (on 60 (.p (.bin .sub (.tmp 56) (.tmp 59)))), (mv 11 60)]) (.region [(on 12 (.p (.move (ci D 1))))]))) (.skip))) (.seq (.seq (.region [
 (mv 61 8), (mv 62 61), ⟨⟨some 63, some (some 62, true), .p (.move (.tmp 9))⟩, []⟩, (on 64 (.p (.pick (.tmp 62) (.tmp 63) (.const (.bool false))))), (mv 65 64), ⟨⟨some 66, some (some 65, true), .p (.move (.tmp 12))⟩, []⟩,
 ⟨⟨some 67, some (some 65, true), .p (.bin .eql (.tmp 66) (ci D 1))⟩, []⟩, (on 68 (.p (.pick (.tmp 65) (.tmp 67) (.const (.bool false)))))]) (.cond (.tmp 68) (.seq (.region [
 (mv 69 0), (mv 70 1), (mv 71 2), (on 72 (.call (.const (.func 293 [] [])) [(.tmp 69), (.tmp 70), (.tmp 71)]))]) (.cond (.tmp 72) (.ret) (.skip))) (.skip))) (.seq (.seq (.region [
 (mv 73 1), (on 74 (.p (.bin .gtr (.tmp 73) (ci D 0)))), (mv 75 74), ⟨⟨some 76, some (some 75, true), .p (.move (.tmp 0))⟩, []⟩,
 ⟨⟨some 77, some (some 75, true), .p (.move (.tmp 1))⟩, []⟩,
 ⟨⟨some 78, some (some 75, true), .p (.bin .sub (.tmp 77) (ci D 1))⟩, []⟩,
 ⟨⟨some 79, some (some 75, true), .p (.idxSl 1 (.tmp 76) (.tmp 78))⟩, []⟩,
 ⟨⟨some 80, some (some 75, true), .r (.load false 1 (.tmp 79))⟩, []⟩,
 ⟨⟨some 81, some (some 75, true), .p (.move (.tmp 0))⟩, []⟩,
 ⟨⟨some 82, some (some 75, true), .p (.move (.tmp 11))⟩, []⟩,
 ⟨⟨some 83, some (some 75, true), .p (.idxSl 1 (.tmp 81) (.tmp 82))⟩, []⟩,
 ⟨⟨some 84, some (some 75, true), .r (.load false 1 (.tmp 83))⟩, []⟩,
 ⟨⟨some 85, some (some 75, true), .call (.const (.func 294 [] [])) [(.tmp 80), (.tmp 84)]⟩, []⟩,
 ⟨⟨some 86, some (some 75, true), .p (.un .not (.tmp 85))⟩, []⟩, (on 87 (.p (.pick (.tmp 75) (.tmp 86) (.const (.bool false)))))]) (.cond (.tmp 87) (.seq (.region [
 (mv 88 0), (mv 89 1), (mv 90 2), (mv 91 11), (on 92 (.call (.const (.func 295 [] [])) [(.tmp 88), (.tmp 89), (.tmp 90), (.tmp 91)])), (mv 13 92)]) (.seq (.region [
 (mv 93 13), (mv 1 93)]) (.exit 1))) (.skip))) (.seq (.region [
 (mv 95 0), (mv 96 1), (mv 97 2), (mv 98 11), (on 99 (.call (.const (.func 296 [] [])) [(.tmp 95), (.tmp 96), (.tmp 97), (.tmp 98)])), (mv 94 99), (on 100 (.p (.extract 0 (.tmp 94)))), (on 101 (.p (.extract 1 (.tmp 94)))), (mv 14 100), (mv 15 101)]) (.seq (.region [
 (mv 102 15), (mv 9 102)]) (.seq (.region [
 (mv 103 14), (mv 104 1), (on 105 (.p (.bin .sub (.tmp 103) (.tmp 104)))), (mv 106 2), (mv 107 14), (on 108 (.p (.bin .sub (.tmp 106) (.tmp 107)))), (mv 16 105), (mv 17 108)]) (.seq (.region [
 (mv 109 10), (on 110 (.p (.bin .quo (.tmp 109) (ci D 8)))), (mv 18 110)]) (.seq (.region [
 (mv 111 16), (mv 112 17), (on 113 (.p (.bin .lss (.tmp 111) (.tmp 112))))]) (.cond (.tmp 113) (.seq (.region [
 (mv 114 16), (mv 115 18), (on 116 (.p (.bin .geq (.tmp 114) (.tmp 115)))), (mv 8 116)]) (.seq (.region [
 (mv 117 0), (mv 118 1), (mv 119 14), (mv 120 3), (on 121 (.call (.const (.func 259 [] [])) [(.tmp 117), (.tmp 118), (.tmp 119), (.tmp 120)]))]) (.region [(mv 122 14), (on 123 (.p (.bin .add (.tmp 122) (ci D 1)))), (mv 1 123)]))) (.seq (.region [
 (mv 124 17), (mv 125 18), (on 126 (.p (.bin .geq (.tmp 124) (.tmp 125)))), (mv 8 126)]) (.seq (.region [
 (mv 127 0), (mv 128 14), (on 129 (.p (.bin .add (.tmp 128) (ci D 1)))), (mv 130 2), (mv 131 3), (on 132 (.call (.const (.func 259 [] [])) [(.tmp 127), (.tmp 129), (.tmp 130), (.tmp 131)]))]) (.region [(mv 133 14), (mv 2 133)])))))))))))))))))))))⟩
theorem lf259_eq (D : Dom I S) : trFunc D (tyFn D) Tryz.f259 = some (lf259 D) := by kernel_rfl
noncomputable def lf260 (D : Dom I S) : LFunc I S := ⟨8, [.tmp 2], .seq (.region [
 (on 2 (.p (.move (ci D 0))))]) (.seq (.cond (.const (.bool false)) (.seq (.region [
 (mv 3 0), (on 4 (.p (.convInt .u32 (.tmp 3)))), (on 5 (.call (.const (.func 297 [] [])) [(.tmp 4)])), (mv 2 5)]) (.ret)) (.skip)) (.seq (.region [
 (mv 6 0), (on 7 (.call (.const (.func 298 [] [])) [(.tmp 6)])), (mv 2 7)]) (.ret)))⟩
theorem lf260_eq (D : Dom I S) : trFunc D (tyFn D) Tryz.f260 = some (lf260 D) := by kernel_rfl
noncomputable def lf261 (D : Dom I S) : LFunc I S := ⟨28, [], .seq (.region [
 (on 7 (.r (.load false 1 (.tmp 1)))), (on 8 (.p (.nilchk (.tmp 7)))), (on 9 (.p (.fieldAddr 2 (.tmp 8)))), (on 10 (.r (.load false 1 (.tmp 9)))), (on 11 (.p (.len (.tmp 10)))), (on 12 (.p (.move (ci D 0))))]) (.block 0 (.loop (.seq (.region [
 (on 13 (.p (.bin .lss (.tmp 12) (.tmp 11))))]) (.seq (.cond (.tmp 13) (.skip) (.exit 0)) (.seq (.block 1 (.seq (.region [
 (on 14 (.p (.idxSl 1 (.tmp 10) (.tmp 12)))), (on 15 (.r (.load false 1 (.tmp 14)))), (mv 4 15)]) (.seq (.region [
 (mv 16 4), (on 17 (.p (.len (.tmp 16)))), (on 18 (.p (.move (ci D 0))))]) (.block 2 (.loop (.seq (.region [
 (on 19 (.p (.bin .lss (.tmp 18) (.tmp 17))))]) (.seq (.cond (.tmp 19) (.skip) (.exit 2)) (.seq (.block 3 (.seq (.region [
 (on 20 (.p (.idxSl 2 (.tmp 16) (.tmp 18)))), (on 21 (.r (.load true 2 (.tmp 20)))), (on 6 (.a (.box (.const (.agg [(vi D 0), (vi D 0)]))))), ⟨⟨none, none, .e (.store 2 (.tmp 6) (.tmp 21))⟩, []⟩]) (.seq (.region [
 (mv 22 0), (on 23 (.r (.load true 2 (.tmp 6)))), (on 24 (.call (.tmp 22) [(.tmp 23)])), (on 25 (.p (.un .not (.tmp 24))))]) (.cond (.tmp 25) (.ret) (.skip))))) (.region [(on 26 (.p (.bin .add (.tmp 18) (ci D 1)))), (mv 18 26)]))))))))) (.region [(on 27 (.p (.bin .add (.tmp 12) (ci D 1)))), (mv 12 27)]))))))⟩
theorem lf261_eq (D : Dom I S) : trFunc D (tyFn D) Tryz.f261 = some (lf261 D) := by kernel_rfl
noncomputable def lf262 (D : Dom I S) : LFunc I S := ⟨53, [], .seq (.region [
 (on 6 (.r (.load false 1 (.tmp 1)))), (on 7 (.p (.nilchk (.tmp 6)))), (on 8 (.p (.fieldAddr 2 (.tmp 7)))), (on 9 (.r (.load false 1 (.tmp 8)))), (on 10 (.p (.len (.tmp 9)))), (on 11 (.p (.move (ci D 0))))]) (.block 0 (.loop (.seq (.region [
 (on 12 (.p (.bin .lss (.tmp 11) (.tmp 10))))]) (.seq (.cond (.tmp 12) (.skip) (.exit 0)) (.seq (.block 1 (.seq (.region [
 (on 13 (.p (.idxSl 1 (.tmp 9) (.tmp 11)))), (on 14 (.r (.load false 1 (.tmp 13)))), (mv 4 14)]) (.seq (.seq (.region [
 (on 5 (.p (.move (ci D 1))))]) (.block 2 (.loop (.seq (.seq (.region [
 (mv 15 5), (mv 16 4), (on 17 (.p (.len (.tmp 16)))), (on 18 (.p (.bin .lss (.tmp 15) (.tmp 17))))]) (.cond (.tmp 18) (.skip) (.exit 2))) (.seq (.block 3 (.seq (.region [
 (mv 21 0), (mv 22 4), (mv 23 5), (on 24 (.p (.bin .sub (.tmp 23) (ci D 1)))), (on 25 (.p (.idxSl 2 (.tmp 22) (.tmp 24)))), (on 26 (.r (.load true 2 (.tmp 25)))), (mv 27 4), (mv 28 5), (on 29 (.p (.idxSl 2 (.tmp 27) (.tmp 28)))), (on 30 (.r (.load true 2 (.tmp 29)))), (on 31 (.call (.tmp 21) [(.tmp 26), (.tmp 30)])), (on 32 (.p (.un .not (.tmp 31))))]) (.cond (.tmp 32) (.ret) (.skip)))) (.region [(mv 19 5), (on 20 (.p (.bin .add (.tmp 19) (ci D 1)))), (mv 5 20)])))))) (.seq (.region [
 (on 33 (.r (.load false 1 (.tmp 1)))), (on 34 (.p (.nilchk (.tmp 33)))), (on 35 (.p (.fieldAddr 1 (.tmp 34)))), (on 36 (.r (.load false 1 (.tmp 35)))), (on 37 (.p (.bin .eql (.tmp 36) (ci D 2)))), (mv 38 37), ⟨⟨some 39, some (some 38, true), .p (.move (.tmp 0))⟩, []⟩,
 ⟨⟨some 40, some (some 38, true), .p (.move (.tmp 4))⟩, []⟩,
 ⟨⟨some 41, some (some 38, true), .p (.move (.tmp 4))⟩, []⟩,
 ⟨⟨some 42, some (some 38, true), .p (.len (.tmp 41))⟩, []⟩,
 ⟨⟨some 43, some (some 38, true), .p (.bin .sub (.tmp 42) (ci D 1))⟩, []⟩,
 ⟨⟨some 44, some (some 38, true), .p (.idxSl 2 (.tmp 40) (.tmp 43))⟩, []⟩,
 ⟨⟨some 45, some (some 38, true), .r (.load true 2 (.tmp 44))⟩, []⟩,
 ⟨⟨some 46, some (some 38, true), .p (.move (.tmp 4))⟩, []⟩,
 ⟨⟨some 47, some (some 38, true), .p (.idxSl 2 (.tmp 46) (ci D 0))⟩, []⟩,
 ⟨⟨some 48, some (some 38, true), .r (.load true 2 (.tmp 47))⟩, []⟩,
 ⟨⟨some 49, some (some 38, true), .call (.tmp 39) [(.tmp 45), (.tmp 48)]⟩, []⟩,
 ⟨⟨some 50, some (some 38, true), .p (.un .not (.tmp 49))⟩, []⟩, (on 51 (.p (.pick (.tmp 38) (.tmp 50) (.const (.bool false)))))]) (.cond (.tmp 51) (.ret) (.skip)))))) (.region [(on 52 (.p (.bin .add (.tmp 11) (ci D 1)))), (mv 11 52)]))))))⟩
theorem lf262_eq (D : Dom I S) : trFunc D (tyFn D) Tryz.f262 = some (lf262 D) := by kernel_rfl
noncomputable def lf267 (D : Dom I S) : LFunc I S := ⟨13, [.tmp 4], .seq (.region [
 (on 2 (.a (.box (.tmp 0)))), (on 4 (.p (.move (.const .nils))))]) (.seq (.seq (.region [
 (mv 6 1)]) (.block 0 (.rangef (.tmp 6) [7] (.region [(mv 5 7)]) (.block 1 (.region [(on 8 (.r (.load false 1 (.tmp 2)))), (mv 9 5), (on 10 (.a (.bslice [(vi D 0)] 1 1 [(0, (.tmp 9))]))), (on 11 (.e (.append 1 8 (.tmp 8) (.tmp 10)))), ⟨⟨none, none, .e (.store 1 (.tmp 2) (.tmp 11))⟩, []⟩]))))) (.seq (.region [
 (on 12 (.r (.load false 1 (.tmp 2)))), (mv 4 12)]) (.ret)))⟩
theorem lf267_eq (D : Dom I S) : trFunc D (tyFn D) Tryz.f267 = some (lf267 D) := by kernel_rfl
noncomputable def lf269 (D : Dom I S) : LFunc I S := ⟨63, [.tmp 2, .tmp 3], .seq (.region [
 (on 1 (.a (.box (.tmp 0)))), (on 2 (.p (.move (.const .nils)))), (on 3 (.p (.move (ci D 0))))]) (.seq (.seq (.region [
 (on 12 (.r (.load true 4 (.tmp 1)))), (on 13 (.call (.const (.func 175 [] [])) [(.tmp 12)])), (on 14 (.p (.un .not (.tmp 13))))]) (.cond (.tmp 14) (.seq (.region [
 (on 2 (.p (.move (.const .nils)))), (on 3 (.p (.move (ci D 600))))]) (.ret)) (.skip))) (.seq (.region [
 (on 4 (.p (.move (.const .nils))))]) (.seq (.seq (.region [
 (on 15 (.p (.fieldAddr 0 (.tmp 1)))), (on 16 (.r (.load false 1 (.tmp 15)))), (on 17 (.p (.bin .shr (.tmp 16) (.const (.int .u64 (D.ofInt (.ofNat 26))))))), (mv 5 17)]) (.block 0 (.loop (.seq (.seq (.region [
 (mv 18 5), (on 19 (.p (.fieldAddr 2 (.tmp 1)))), (on 20 (.r (.load false 1 (.tmp 19)))), (on 21 (.p (.bin .shr (.tmp 20) (.const (.int .u64 (D.ofInt (.ofNat 26))))))), (on 22 (.p (.bin .leq (.tmp 18) (.tmp 21))))]) (.cond (.tmp 22) (.skip) (.exit 0))) (.seq (.block 1 (.seq (.region [
 (on 25 (.p (.fieldAddr 1 (.tmp 1)))), (on 26 (.r (.load false 1 (.tmp 25)))), (on 27 (.p (.bin .shr (.tmp 26) (.const (.int .u64 (D.ofInt (.ofNat 26))))))), (mv 6 27)]) (.block 2 (.loop (.seq (.seq (.region [
 (mv 28 6), (on 29 (.p (.fieldAddr 3 (.tmp 1)))), (on 30 (.r (.load false 1 (.tmp 29)))), (on 31 (.p (.bin .shr (.tmp 30) (.const (.int .u64 (D.ofInt (.ofNat 26))))))), (on 32 (.p (.bin .leq (.tmp 28) (.tmp 31))))]) (.cond (.tmp 32) (.skip) (.exit 2))) (.seq (.block 3 (.seq (.region [
 (mv 36 5), (mv 37 6), (on 38 (.call (.const (.func 301 [] [])) [(.tmp 36), (.tmp 37), (ci D 6)])), (mv 35 38), (on 39 (.p (.extract 0 (.tmp 35)))), (on 40 (.p (.extract 1 (.tmp 35)))), (mv 7 39), (mv 8 40)]) (.region [(mv 41 4), (mv 42 7), (on 43 (.a (.bslice [(vi D 0)] 1 1 [(0, (.tmp 42))]))), (on 44 (.e (.append 1 8 (.tmp 41) (.tmp 43)))), (mv 4 44)]))) (.region [(mv 33 6), (on 34 (.p (.bin .add (.tmp 33) (ci D 1)))), (mv 6 34)]))))))) (.region [(mv 23 5), (on 24 (.p (.bin .add (.tmp 23) (ci D 1)))), (mv 5 24)])))))) (.seq (.region [
 (mv 45 4), (on 46 (.call (.const (.func 225 [] [])) [(.tmp 45)]))]) (.seq (.region [
 (on 9 (.p (.move (.const .nils))))]) (.seq (.seq (.region [
 (mv 47 4), (on 48 (.p (.len (.tmp 47)))), (on 49 (.p (.move (ci D 0))))]) (.block 4 (.loop (.seq (.region [
 (on 50 (.p (.bin .lss (.tmp 49) (.tmp 48))))]) (.seq (.cond (.tmp 50) (.skip) (.exit 4)) (.seq (.block 5 (.seq (.region [
 (on 51 (.p (.idxSl 1 (.tmp 47) (.tmp 49)))), (on 52 (.r (.load false 1 (.tmp 51)))), (mv 11 52)]) (.region [(mv 53 9), (mv 54 11), (on 55 (.p (.bin .shl (.tmp 54) (.const (.int .u64 (D.ofInt (.ofNat 20))))))), (mv 56 11), (on 57 (.p (.bin .add (.tmp 56) (ci D 1)))), (on 58 (.p (.bin .shl (.tmp 57) (.const (.int .u64 (D.ofInt (.ofNat 20))))))), (on 59 (.p (.build [(vi D 0), (vi D 0)] [(0, 1, (.tmp 55)), (1, 1, (.tmp 58))]))), (on 60 (.call (.const (.func 302 [] [])) [(.tmp 53), (.tmp 59)])), (mv 9 60)]))) (.region [(on 61 (.p (.bin .add (.tmp 49) (ci D 1)))), (mv 49 61)]))))))) (.seq (.region [
 (mv 62 9), (mv 2 62), (on 3 (.p (.move (ci D 0))))]) (.ret))))))))⟩
theorem lf269_eq (D : Dom I S) : trFunc D (tyFn D) Tryz.f269 = some (lf269 D) := by kernel_rfl
noncomputable def lf270 (D : Dom I S) : LFunc I S := ⟨41, [.tmp 4, .tmp 5], .seq (.region [
 (on 2 (.a (.box (.tmp 0)))), (on 4 (.p (.move (.const .nils)))), (on 5 (.p (.move (ci D 0))))]) (.seq (.seq (.region [
 (on 9 (.r (.load true 3 (.tmp 2)))), (on 10 (.call (.const (.func 129 [] [])) [(.tmp 9), (ci D 8)])), (on 11 (.p (.un .not (.tmp 10)))), (mv 12 11), ⟨⟨some 13, some (some 12, false), .p (.move (.tmp 1))⟩, []⟩,
 ⟨⟨some 14, some (some 12, false), .call (.const (.func 303 [] [])) [(.tmp 13)]⟩, []⟩,
 ⟨⟨some 15, some (some 12, false), .p (.un .not (.tmp 14))⟩, []⟩, (on 16 (.p (.pick (.tmp 12) (.const (.bool true)) (.tmp 15))))]) (.cond (.tmp 16) (.seq (.region [
 (on 4 (.p (.move (.const .nils)))), (on 5 (.p (.move (ci D 700))))]) (.ret)) (.skip))) (.seq (.region [
 (on 6 (.p (.move (.const .nils))))]) (.seq (.seq (.region [
 (mv 17 1), (on 18 (.p (.len (.tmp 17)))), (on 19 (.p (.move (ci D 0))))]) (.block 0 (.loop (.seq (.region [
 (on 20 (.p (.bin .lss (.tmp 19) (.tmp 18))))]) (.seq (.cond (.tmp 20) (.skip) (.exit 0)) (.seq (.block 1 (.seq (.region [
 (on 21 (.p (.idxSl 2 (.tmp 17) (.tmp 19)))), (on 22 (.r (.load true 2 (.tmp 21)))), (on 8 (.a (.box (.const (.agg [(vi D 0), (vi D 0)]))))), ⟨⟨none, none, .e (.store 2 (.tmp 8) (.tmp 22))⟩, []⟩]) (.region [(mv 23 6), (on 24 (.p (.fieldAddr 2 (.tmp 2)))), (on 25 (.r (.load false 1 (.tmp 24)))), (on 26 (.p (.fieldAddr 0 (.tmp 8)))), (on 27 (.r (.load false 1 (.tmp 26)))), (on 29 (.p (.fieldAddr 1 (.tmp 8)))), (on 30 (.r (.load false 1 (.tmp 29)))), (on 31 (.p (.bin .sub (.tmp 30) (ci D 1)))), ⟨⟨some 28, none, .call (.const (.func 285 [] [])) [(.tmp 2), (.tmp 27)]⟩, [⟨some 30, none, .r (.load false 1 (.tmp 29))⟩, ⟨some 25, none, .r (.load false 1 (.tmp 24))⟩]⟩, ⟨⟨some 32, none, .call (.const (.func 285 [] [])) [(.tmp 2), (.tmp 31)]⟩, [⟨some 25, none, .r (.load false 1 (.tmp 24))⟩]⟩, (on 33 (.p (.bin .add (.tmp 32) (ci D 1)))), (on 34 (.p (.slSl 1 (.tmp 25) (some (.tmp 28)) (some (.tmp 33)) none))), (on 35 (.e (.append 1 8 (.tmp 23) (.tmp 34)))), (mv 6 35)]))) (.region [(on 36 (.p (.bin .add (.tmp 19) (ci D 1)))), (mv 19 36)]))))))) (.seq (.region [
 (mv 37 6), (on 38 (.call (.const (.func 225 [] [])) [(.tmp 37)]))]) (.seq (.region [
 (mv 39 6), (on 40 (.call (.const (.func 304 [] [])) [(.tmp 39)])), (mv 4 40), (on 5 (.p (.move (ci D 0))))]) (.ret))))))⟩
theorem lf270_eq (D : Dom I S) : trFunc D (tyFn D) Tryz.f270 = some (lf270 D) := by kernel_rfl
noncomputable def lf271 (D : Dom I S) : LFunc I S := ⟨9, [.tmp 4], .seq (.region [
 (on 4 (.p (.move (.const (.bool false)))))]) (.seq (.region [
 (mv 5 0), (mv 6 1), (on 7 (.call (.const (.func 305 [] [])) [(.tmp 5), (.tmp 6)])), (on 8 (.p (.bin .geq (.tmp 7) (ci D 0)))), (mv 4 8)]) (.ret))⟩
theorem lf271_eq (D : Dom I S) : trFunc D (tyFn D) Tryz.f271 = some (lf271 D) := by kernel_rfl
noncomputable def lf272 (D : Dom I S) : LFunc I S := ⟨26, [.cell 4 true 4], .seq (.region [
 (on 2 (.a (.box (.tmp 0)))), (on 3 (.a (.box (.tmp 1)))), (on 4 (.a (.box (.const (.agg [(vi D 0), (vi D 0), (vi D 0), (vi D 0)])))))]) (.seq (.region [
 (on 5 (.p (.fieldAddr 0 (.tmp 2)))), (on 6 (.r (.load false 1 (.tmp 5)))), (on 7 (.p (.fieldAddr 0 (.tmp 3)))), (on 8 (.r (.load false 1 (.tmp 7)))), (on 9 (.p (.min [(.tmp 6), (.tmp 8)]))), (on 10 (.p (.fieldAddr 1 (.tmp 2)))), (on 11 (.r (.load false 1 (.tmp 10)))), (on 12 (.p (.fieldAddr 1 (.tmp 3)))), (on 13 (.r (.load false 1 (.tmp 12)))), (on 14 (.p (.min [(.tmp 11), (.tmp 13)]))), (on 15 (.p (.fieldAddr 0 (.tmp 2)))), (on 16 (.r (.load false 1 (.tmp 15)))), (on 17 (.p (.fieldAddr 0 (.tmp 3)))), (on 18 (.r (.load false 1 (.tmp 17)))), (on 19 (.p (.max [(.tmp 16), (.tmp 18)]))), (on 20 (.p (.fieldAddr 1 (.tmp 2)))), (on 21 (.r (.load false 1 (.tmp 20)))), (on 22 (.p (.fieldAddr 1 (.tmp 3)))), (on 23 (.r (.load false 1 (.tmp 22)))), (on 24 (.p (.max [(.tmp 21), (.tmp 23)]))), (on 25 (.p (.build [(vi D 0), (vi D 0), (vi D 0), (vi D 0)] [(0, 1, (.tmp 9)), (1, 1, (.tmp 14)), (2, 1, (.tmp 19)), (3, 1, (.tmp 24))]))), ⟨⟨none, none, .e (.store 4 (.tmp 4) (.tmp 25))⟩, []⟩]) (.ret))⟩
theorem lf272_eq (D : Dom I S) : trFunc D (tyFn D) Tryz.f272 = some (lf272 D) := by kernel_rfl
noncomputable def lf273 (D : Dom I S) : LFunc I S := ⟨36, [.cell 4 true 4, .tmp 5], .seq (.region [
 (on 2 (.a (.box (.tmp 0)))), (on 3 (.a (.box (.tmp 1)))), (on 4 (.a (.box (.const (.agg [(vi D 0), (vi D 0), (vi D 0), (vi D 0)]))))), (on 5 (.p (.move (ci D 0))))]) (.seq (.seq (.region [
 (on 6 (.r (.load true 4 (.tmp 2)))), (on 7 (.call (.const (.func 175 [] [])) [(.tmp 6)])), (on 8 (.p (.un .not (.tmp 7)))), (mv 9 8), ⟨⟨some 10, some (some 9, false), .r (.load true 4 (.tmp 3))⟩, []⟩,
 ⟨⟨some 11, some (some 9, false), .call (.const (.func 175 [] [])) [(.tmp 10)]⟩, []⟩,
 ⟨⟨some 12, some (some 9, false), .p (.un .not (.tmp 11))⟩, []⟩, (on 13 (.p (.pick (.tmp 9) (.const (.bool true)) (.tmp 12))))]) (.cond (.tmp 13) (.seq (.region [
 (on 14 (.p (.build [(vi D 0), (vi D 0), (vi D 0), (vi D 0)] []))), ⟨⟨none, none, .e (.store 4 (.tmp 4) (.tmp 14))⟩, []⟩, (on 5 (.p (.move (ci D 300))))]) (.ret)) (.skip))) (.seq (.region [
 (on 15 (.p (.fieldAddr 0 (.tmp 2)))), (on 16 (.r (.load false 1 (.tmp 15)))), (on 17 (.p (.fieldAddr 0 (.tmp 3)))), (on 18 (.r (.load false 1 (.tmp 17)))), (on 19 (.p (.min [(.tmp 16), (.tmp 18)]))), (on 20 (.p (.fieldAddr 1 (.tmp 2)))), (on 21 (.r (.load false 1 (.tmp 20)))), (on 22 (.p (.fieldAddr 1 (.tmp 3)))), (on 23 (.r (.load false 1 (.tmp 22)))), (on 24 (.p (.min [(.tmp 21), (.tmp 23)]))), (on 25 (.p (.fieldAddr 2 (.tmp 2)))), (on 26 (.r (.load false 1 (.tmp 25)))), (on 27 (.p (.fieldAddr 2 (.tmp 3)))), (on 28 (.r (.load false 1 (.tmp 27)))), (on 29 (.p (.max [(.tmp 26), (.tmp 28)]))), (on 30 (.p (.fieldAddr 3 (.tmp 2)))), (on 31 (.r (.load false 1 (.tmp 30)))), (on 32 (.p (.fieldAddr 3 (.tmp 3)))), (on 33 (.r (.load false 1 (.tmp 32)))), (on 34 (.p (.max [(.tmp 31), (.tmp 33)]))), (on 35 (.p (.build [(vi D 0), (vi D 0), (vi D 0), (vi D 0)] [(0, 1, (.tmp 19)), (1, 1, (.tmp 24)), (2, 1, (.tmp 29)), (3, 1, (.tmp 34))]))), ⟨⟨none, none, .e (.store 4 (.tmp 4) (.tmp 35))⟩, []⟩, (on 5 (.p (.move (ci D 0))))]) (.ret)))⟩
theorem lf273_eq (D : Dom I S) : trFunc D (tyFn D) Tryz.f273 = some (lf273 D) := by kernel_rfl
noncomputable def lf275 (D : Dom I S) : LFunc I S := ⟨52, [], .seq (.region [
 (on 3 (.a (.box (.tmp 1))))]) (.seq (.seq (.region [
 (mv 6 0), (on 7 (.p (.nilchk (.tmp 6)))), (on 8 (.p (.fieldAddr 0 (.tmp 7)))), (on 9 (.r (.load false 1 (.tmp 8)))), (on 10 (.r (.eqRef .ptr false (.tmp 9) (.const .nilp))))]) (.cond (.tmp 10) (.region [(mv 11 0), (mv 12 0), (on 13 (.p (.build [(.bool false), .nils] [(0, 1, (.const (.bool true)))]))), (on 14 (.a (.box (.tmp 13)))), (on 15 (.p (.nilchk (.tmp 11)))), (on 16 (.p (.fieldAddr 0 (.tmp 15)))), ⟨⟨none, none, .e (.store 1 (.tmp 16) (.tmp 14))⟩, []⟩, (on 17 (.p (.nilchk (.tmp 12)))), (on 18 (.p (.fieldAddr 1 (.tmp 17)))), ⟨⟨none, none, .e (.store 1 (.tmp 18) (ci D 1))⟩, []⟩]) (.skip))) (.seq (.region [
 (mv 19 0), (on 20 (.p (.nilchk (.tmp 19)))), (on 21 (.p (.fieldAddr 0 (.tmp 20)))), (on 22 (.r (.load false 1 (.tmp 21)))), (on 23 (.r (.load true 7 (.tmp 3)))), (on 24 (.call (.const (.func 308 [] [])) [(.tmp 22), (.tmp 23)])), (mv 4 24)]) (.seq (.region [
 (mv 25 4), (on 26 (.r (.eqRef .ptr true (.tmp 25) (.const .nilp))))]) (.cond (.tmp 26) (.seq (.region [
 (mv 27 0), (on 28 (.p (.nilchk (.tmp 27)))), (on 29 (.p (.fieldAddr 0 (.tmp 28)))), (on 30 (.r (.load false 1 (.tmp 29)))), (mv 5 30)]) (.seq (.region [
 (mv 31 0), (mv 32 5), (on 33 (.call (.const (.func 309 [] [])) [(.tmp 32)])), (mv 34 5), (on 35 (.p (.build [(vi D 0), (vi D 0), (vi D 0), (vi D 0), (vi D 0), .nilp, (.bool false)] [(0, 4, (.tmp 33)), (5, 1, (.tmp 34))]))), (mv 36 4), (on 37 (.call (.const (.func 309 [] [])) [(.tmp 36)])), (mv 38 4), (on 39 (.p (.build [(vi D 0), (vi D 0), (vi D 0), (vi D 0), (vi D 0), .nilp, (.bool false)] [(0, 4, (.tmp 37)), (5, 1, (.tmp 38))]))), (on 40 (.a (.bslice [(vi D 0), (vi D 0), (vi D 0), (vi D 0), (vi D 0), .nilp, (.bool false)] 2 7 [(0, (.tmp 35)), (1, (.tmp 39))]))), (on 41 (.p (.build [(.bool false), .nils] [(1, 1, (.tmp 40))]))), (on 42 (.a (.box (.tmp 41)))), (on 43 (.p (.nilchk (.tmp 31)))), (on 44 (.p (.fieldAddr 0 (.tmp 43)))), ⟨⟨none, none, .e (.store 1 (.tmp 44) (.tmp 42))⟩, []⟩]) (.region [(mv 45 0), (on 46 (.p (.nilchk (.tmp 45)))), (on 47 (.p (.fieldAddr 1 (.tmp 46)))), (on 48 (.r (.load false 1 (.tmp 47)))), (on 49 (.p (.bin .add (.tmp 48) (ci D 1)))), (on 50 (.p (.nilchk (.tmp 45)))), (on 51 (.p (.fieldAddr 1 (.tmp 50)))), ⟨⟨none, none, .e (.store 1 (.tmp 51) (.tmp 49))⟩, []⟩]))) (.skip)))))⟩
theorem lf275_eq (D : Dom I S) : trFunc D (tyFn D) Tryz.f275 = some (lf275 D) := by kernel_rfl
noncomputable def lf276 (D : Dom I S) : LFunc I S := ⟨42, [.tmp 4], .seq (.region [
 (on 4 (.p (.move (.const .nils))))]) (.seq (.region [
 (mv 8 0), (mv 9 1), (on 10 (.call (.const (.func 310 [] [])) [(.tmp 8), (.tmp 9)])), (mv 5 10)]) (.seq (.seq (.region [
 (mv 11 5), (on 12 (.p (.bin .eql (.tmp 11) (.const (.int .i64 (D.ofInt (.negSucc 0)))))))]) (.cond (.tmp 12) (.seq (.region [
 (mv 13 0), (mv 4 13)]) (.ret)) (.skip))) (.seq (.seq (.region [
 (mv 14 5), (on 15 (.p (.bin .add (.tmp 14) (ci D 1)))), (mv 6 15)]) (.block 0 (.loop (.seq (.seq (.region [
 (mv 16 6), (mv 17 0), (on 18 (.p (.len (.tmp 17)))), (on 19 (.p (.bin .lss (.tmp 16) (.tmp 18))))]) (.cond (.tmp 19) (.skip) (.exit 0))) (.seq (.block 1 (.seq (.region [
 (mv 22 0), (mv 23 6), (on 24 (.p (.idxSl 2 (.tmp 22) (.tmp 23)))), (on 25 (.r (.load true 2 (.tmp 24)))), (on 7 (.a (.box (.const (.agg [(vi D 0), (vi D 0)]))))), ⟨⟨none, none, .e (.store 2 (.tmp 7) (.tmp 25))⟩, []⟩]) (.seq (.region [
 (mv 26 1), (on 27 (.r (.load true 2 (.tmp 7)))), (on 28 (.call (.tmp 26) [(.tmp 27)])), (on 29 (.p (.un .not (.tmp 28))))]) (.cond (.tmp 29) (.seq (.region [
 (mv 30 0), (mv 31 5), (on 32 (.r (.load true 2 (.tmp 7)))), (on 33 (.p (.idxSl 2 (.tmp 30) (.tmp 31)))), ⟨⟨none, none, .e (.store 2 (.tmp 33) (.tmp 32))⟩, []⟩]) (.region [(mv 34 5), (on 35 (.p (.bin .add (.tmp 34) (ci D 1)))), (mv 5 35)])) (.skip))))) (.region [(mv 20 6), (on 21 (.p (.bin .add (.tmp 20) (ci D 1)))), (mv 6 21)])))))) (.seq (.region [
 (mv 36 0), (mv 37 5), (on 38 (.p (.slSl 2 (.tmp 36) (some (.tmp 37)) none none))), ⟨⟨none, none, .e (.clear [(vi D 0), (vi D 0)] (.tmp 38))⟩, []⟩]) (.seq (.region [
 (mv 39 0), (mv 40 5), (on 41 (.p (.slSl 2 (.tmp 39) none (some (.tmp 40)) none))), (mv 4 41)]) (.ret))))))⟩
theorem lf276_eq (D : Dom I S) : trFunc D (tyFn D) Tryz.f276 = some (lf276 D) := by kernel_rfl
noncomputable def lf277 (D : Dom I S) : LFunc I S := ⟨7, [.tmp 3], .seq (.region [
 (on 2 (.a (.box (.tmp 0)))), (on 3 (.p (.move (.const (.bool false)))))]) (.seq (.region [
 (on 4 (.r (.load true 2 (.tmp 2)))), (on 5 (.r (.load true 2 (.tmp 1)))), (on 6 (.p (.eqAgg false 2 (.tmp 4) (.tmp 5)))), (mv 3 6)]) (.ret))⟩
theorem lf277_eq (D : Dom I S) : trFunc D (tyFn D) Tryz.f277 = some (lf277 D) := by kernel_rfl
noncomputable def lf278 (D : Dom I S) : LFunc I S := ⟨63, [], .seq (.region [
 (on 6 (.p (.move (ci D 20))))]) (.seq (.region [
 (mv 10 6), (on 7 (.p (.move (ci D 0)))), (mv 8 10)]) (.seq (.block 0 (.loop (.seq (.seq (.region [
 (mv 11 8), (mv 12 1), (on 13 (.p (.bin .leq (.tmp 11) (.tmp 12))))]) (.cond (.tmp 13) (.skip) (.exit 0))) (.block 1 (.seq (.region [
 (mv 14 0), (mv 15 7), (mv 16 8), (mv 17 2), (on 18 (.call (.const (.func 311 [] [])) [(.tmp 14), (.tmp 15), (.tmp 16), (.tmp 17)]))]) (.seq (.region [
 (mv 19 8), (mv 7 19)]) (.region [(mv 20 8), (mv 21 6), (on 22 (.p (.bin .add (.tmp 20) (.tmp 21)))), (mv 8 22)]))))))) (.seq (.region [
 (mv 23 0), (mv 24 7), (mv 25 1), (mv 26 2), (on 27 (.call (.const (.func 311 [] [])) [(.tmp 23), (.tmp 24), (.tmp 25), (.tmp 26)]))]) (.block 2 (.loop (.seq (.seq (.region [
 (mv 28 6), (mv 29 1), (on 30 (.p (.bin .lss (.tmp 28) (.tmp 29))))]) (.cond (.tmp 30) (.skip) (.exit 2))) (.block 3 (.seq (.region [
 (mv 31 6), (on 32 (.p (.bin .mul (ci D 2) (.tmp 31)))), (on 7 (.p (.move (ci D 0)))), (mv 8 32)]) (.seq (.block 4 (.loop (.seq (.seq (.region [
 (mv 33 8), (mv 34 1), (on 35 (.p (.bin .leq (.tmp 33) (.tmp 34))))]) (.cond (.tmp 35) (.skip) (.exit 4))) (.block 5 (.seq (.region [
 (mv 36 0), (mv 37 7), (mv 38 7), (mv 39 6), (on 40 (.p (.bin .add (.tmp 38) (.tmp 39)))), (mv 41 8), (mv 42 2), (on 43 (.call (.const (.func 312 [] [])) [(.tmp 36), (.tmp 37), (.tmp 40), (.tmp 41), (.tmp 42)]))]) (.seq (.region [
 (mv 44 8), (mv 7 44)]) (.region [(mv 45 8), (mv 46 6), (on 47 (.p (.bin .mul (ci D 2) (.tmp 46)))), (on 48 (.p (.bin .add (.tmp 45) (.tmp 47)))), (mv 8 48)]))))))) (.seq (.seq (.region [
 (mv 49 7), (mv 50 6), (on 51 (.p (.bin .add (.tmp 49) (.tmp 50)))), (mv 9 51)]) (.seq (.region [
 (mv 52 9), (mv 53 1), (on 54 (.p (.bin .lss (.tmp 52) (.tmp 53))))]) (.cond (.tmp 54) (.region [(mv 55 0), (mv 56 7), (mv 57 9), (mv 58 1), (mv 59 2), (on 60 (.call (.const (.func 312 [] [])) [(.tmp 55), (.tmp 56), (.tmp 57), (.tmp 58), (.tmp 59)]))]) (.skip)))) (.region [(mv 61 6), (on 62 (.p (.bin .mul (.tmp 61) (ci D 2)))), (mv 6 62)])))))))))))⟩
theorem lf278_eq (D : Dom I S) : trFunc D (tyFn D) Tryz.f278 = some (lf278 D) := by kernel_rfl
noncomputable def lf279 (D : Dom I S) : LFunc I S := ⟨6, [.tmp 2], .seq (.region [
 (on 2 (.p (.move (.const (.bool false)))))]) (.seq (.region [
 (mv 3 0), (mv 4 0), (on 5 (.p (.bin .neq (.tmp 3) (.tmp 4)))), (mv 2 5)]) (.ret))⟩
theorem lf279_eq (D : Dom I S) : trFunc D (tyFn D) Tryz.f279 = some (lf279 D) := by kernel_rfl
noncomputable def lf285 (D : Dom I S) : LFunc I S := ⟨21, [.tmp 4], .seq (.region [
 (on 4 (.p (.move (ci D 0))))]) (.seq (.region [
 (mv 8 0), (on 9 (.p (.nilchk (.tmp 8)))), (on 10 (.p (.fieldAddr 1 (.tmp 9)))), (on 11 (.r (.load false 1 (.tmp 10)))), (mv 12 1), (on 13 (.call (.const (.func 317 [] [])) [(.tmp 11), (.tmp 12)])), (mv 7 13), (on 14 (.p (.extract 0 (.tmp 7)))), (on 15 (.p (.extract 1 (.tmp 7)))), (mv 5 14), (mv 6 15)]) (.seq (.seq (.region [
 (mv 16 6), (on 17 (.p (.un .not (.tmp 16))))]) (.cond (.tmp 17) (.region [(mv 18 5), (on 19 (.p (.bin .sub (.tmp 18) (ci D 1)))), (mv 5 19)]) (.skip))) (.seq (.region [
 (mv 20 5), (mv 4 20)]) (.ret))))⟩
theorem lf285_eq (D : Dom I S) : trFunc D (tyFn D) Tryz.f285 = some (lf285 D) := by kernel_rfl
noncomputable def lf288 (D : Dom I S) : LFunc I S := ⟨49, [], .seq (.region [
 (mv 8 1), (on 9 (.p (.bin .add (.tmp 8) (ci D 1)))), (mv 6 9)]) (.block 0 (.loop (.seq (.seq (.region [
 (mv 10 6), (mv 11 2), (on 12 (.p (.bin .lss (.tmp 10) (.tmp 11))))]) (.cond (.tmp 12) (.skip) (.exit 0))) (.seq (.block 1 (.seq (.region [
 (mv 15 6), (mv 7 15)]) (.block 2 (.loop (.seq (.seq (.region [
 (mv 16 7), (mv 17 1), (on 18 (.p (.bin .gtr (.tmp 16) (.tmp 17)))), (mv 19 18), ⟨⟨some 20, some (some 19, true), .p (.move (.tmp 0))⟩, []⟩,
 ⟨⟨some 21, some (some 19, true), .p (.move (.tmp 7))⟩, []⟩,
 ⟨⟨some 22, some (some 19, true), .p (.idxSl 1 (.tmp 20) (.tmp 21))⟩, []⟩,
 ⟨⟨some 23, some (some 19, true), .r (.load false 1 (.tmp 22))⟩, []⟩,
 ⟨⟨some 24, some (some 19, true), .p (.move (.tmp 0))⟩, []⟩,
 ⟨⟨some 25, some (some 19, true), .p (.move (.tmp 7))⟩, []⟩,
 ⟨⟨some 26, some (some 19, true), .p (.bin .sub (.tmp 25) (ci D 1))⟩, []⟩,
 ⟨⟨some 27, some (some 19, true), .p (.idxSl 1 (.tmp 24) (.tmp 26))⟩, []⟩,
 ⟨⟨some 28, some (some 19, true), .r (.load false 1 (.tmp 27))⟩, []⟩,
 ⟨⟨some 29, some (some 19, true), .call (.const (.func 294 [] [])) [(.tmp 23), (.tmp 28)]⟩, []⟩, (on 30 (.p (.pick (.tmp 19) (.tmp 29) (.const (.bool false)))))]) (.cond (.tmp 30) (.skip) (.exit 2))) (.seq (.block 3 (.region [(mv 33 0), (mv 34 7), (mv 35 0), (mv 36 7), (on 37 (.p (.bin .sub (.tmp 36) (ci D 1)))), (mv 38 0), (mv 39 7), (on 40 (.p (.bin .sub (.tmp 39) (ci D 1)))), (on 41 (.p (.idxSl 1 (.tmp 38) (.tmp 40)))), (on 42 (.r (.load false 1 (.tmp 41)))), (mv 43 0), (mv 44 7), (on 45 (.p (.idxSl 1 (.tmp 43) (.tmp 44)))), (on 46 (.r (.load false 1 (.tmp 45)))), (on 47 (.p (.idxSl 1 (.tmp 33) (.tmp 34)))), ⟨⟨none, none, .e (.store 1 (.tmp 47) (.tmp 42))⟩, []⟩, (on 48 (.p (.idxSl 1 (.tmp 35) (.tmp 37)))), ⟨⟨none, none, .e (.store 1 (.tmp 48) (.tmp 46))⟩, []⟩])) (.region [(mv 31 7), (on 32 (.p (.bin .sub (.tmp 31) (ci D 1)))), (mv 7 32)]))))))) (.region [(mv 13 6), (on 14 (.p (.bin .add (.tmp 13) (ci D 1)))), (mv 6 14)])))))⟩
theorem lf288_eq (D : Dom I S) : trFunc D (tyFn D) Tryz.f288 = some (lf288 D) := by kernel_rfl
noncomputable def lf294 (D : Dom I S) : LFunc I S := ⟨17, [.tmp 4], .seq (.region [
 (on 4 (.p (.move (.const (.bool false)))))]) (.seq (.region [
 (mv 5 0), (on 6 (.call (.const (.func 279 [] [])) [(.tmp 5)])), (mv 7 6), ⟨⟨some 8, some (some 7, true), .p (.move (.tmp 1))⟩, []⟩,
 ⟨⟨some 9, some (some 7, true), .call (.const (.func 279 [] [])) [(.tmp 8)]⟩, []⟩,
 ⟨⟨some 10, some (some 7, true), .p (.un .not (.tmp 9))⟩, []⟩, (on 11 (.p (.pick (.tmp 7) (.tmp 10) (.const (.bool false))))), (mv 12 11), ⟨⟨some 13, some (some 12, false), .p (.move (.tmp 0))⟩, []⟩,
 ⟨⟨some 14, some (some 12, false), .p (.move (.tmp 1))⟩, []⟩,
 ⟨⟨some 15, some (some 12, false), .p (.bin .lss (.tmp 13) (.tmp 14))⟩, []⟩, (on 16 (.p (.pick (.tmp 12) (.const (.bool true)) (.tmp 15)))), (mv 4 16)]) (.ret))⟩
theorem lf294_eq (D : Dom I S) : trFunc D (tyFn D) Tryz.f294 = some (lf294 D) := by kernel_rfl
noncomputable def lf298 (D : Dom I S) : LFunc I S := ⟨25, [.tmp 2], .seq (.region [
 (on 2 (.p (.move (ci D 0))))]) (.seq (.seq (.region [
 (mv 3 0), (on 4 (.p (.bin .geq (.tmp 3) (.const (.int .u64 (D.ofInt (.ofNat 4294967296)))))))]) (.cond (.tmp 4) (.seq (.region [
 (mv 5 0), (on 6 (.p (.bin .shr (.tmp 5) (.const (.int .u64 (D.ofInt (.ofNat 32))))))), (mv 0 6)]) (.region [(on 2 (.p (.move (ci D 32))))])) (.skip))) (.seq (.seq (.region [
 (mv 7 0), (on 8 (.p (.bin .geq (.tmp 7) (.const (.int .u64 (D.ofInt (.ofNat 65536)))))))]) (.cond (.tmp 8) (.seq (.region [
 (mv 9 0), (on 10 (.p (.bin .shr (.tmp 9) (.const (.int .u64 (D.ofInt (.ofNat 16))))))), (mv 0 10)]) (.region [(mv 11 2), (on 12 (.p (.bin .add (.tmp 11) (ci D 16)))), (mv 2 12)])) (.skip))) (.seq (.seq (.region [
 (mv 13 0), (on 14 (.p (.bin .geq (.tmp 13) (.const (.int .u64 (D.ofInt (.ofNat 256)))))))]) (.cond (.tmp 14) (.seq (.region [
 (mv 15 0), (on 16 (.p (.bin .shr (.tmp 15) (.const (.int .u64 (D.ofInt (.ofNat 8))))))), (mv 0 16)]) (.region [(mv 17 2), (on 18 (.p (.bin .add (.tmp 17) (ci D 8)))), (mv 2 18)])) (.skip))) (.seq (.region [
 (mv 19 2), (mv 20 0), (on 21 (.p (.convInt .u8 (.tmp 20)))), ⟨⟨some 22, none, .p (.idxStr (.const (.str (D.sOf ⟨#[0, 1, 2, 2, 3, 3, 3, 3, 4, 4, 4, 4, 4, 4, 4, 4, 5, 5, 5, 5, 5, 5, 5, 5, 5, 5, 5, 5, 5, 5, 5, 5, 6, 6, 6, 6, 6, 6, 6, 6, 6, 6, 6, 6, 6, 6, 6, 6, 6, 6, 6, 6, 6, 6, 6, 6, 6, 6, 6, 6, 6, 6, 6, 6, 7, 7, 7, 7, 7, 7, 7, 7, 7, 7, 7, 7, 7, 7, 7, 7, 7, 7, 7, 7, 7, 7, 7, 7, 7, 7, 7, 7, 7, 7, 7, 7, 7, 7, 7, 7, 7, 7, 7, 7, 7, 7, 7, 7, 7, 7, 7, 7, 7, 7, 7, 7, 7, 7, 7, 7, 7, 7, 7, 7, 7, 7, 7, 7, 8, 8, 8, 8, 8, 8, 8, 8, 8, 8, 8, 8, 8, 8, 8, 8, 8, 8, 8, 8, 8, 8, 8, 8, 8, 8, 8, 8, 8, 8, 8, 8, 8, 8, 8, 8, 8, 8, 8, 8, 8, 8, 8, 8, 8, 8, 8, 8, 8, 8, 8, 8, 8, 8, 8, 8, 8, 8, 8, 8, 8, 8, 8, 8, 8, 8, 8, 8, 8, 8, 8, 8, 8, 8, 8, 8, 8, 8, 8, 8, 8, 8, 8, 8, 8, 8, 8, 8, 8, 8, 8, 8, 8, 8, 8, 8, 8, 8, 8, 8, 8, 8, 8, 8, 8, 8, 8, 8, 8, 8, 8, 8, 8, 8, 8, 8, 8, 8, 8, 8, 8, 8, 8, 8, 8, 8, 8, 8]⟩))) (.tmp 21))⟩, []⟩, (on 23 (.p (.convInt .i64 (.tmp 22)))), (on 24 (.p (.bin .add (.tmp 19) (.tmp 23)))), (mv 2 24)]) (.ret)))))⟩
theorem lf298_eq (D : Dom I S) : trFunc D (tyFn D) Tryz.f298 = some (lf298 D) := by kernel_rfl
noncomputable def lf301 (D : Dom I S) : LFunc I S := ⟨81, [.tmp 6, .tmp 7], .seq (.region [
 (on 6 (.p (.move (ci D 0)))), (on 7 (.p (.move (ci D 0))))]) (.seq (.seq (.region [
 (mv 13 2), (on 14 (.p (.bin .lss (.tmp 13) (ci D 1)))), (mv 15 14), ⟨⟨some 16, some (some 15, false), .p (.move (.tmp 2))⟩, []⟩,
 ⟨⟨some 17, some (some 15, false), .p (.bin .gtr (.tmp 16) (ci D 16))⟩, []⟩, (on 18 (.p (.pick (.tmp 15) (.const (.bool true)) (.tmp 17)))), (mv 19 18), ⟨⟨some 20, some (some 19, false), .p (.move (.tmp 0))⟩, []⟩,
 ⟨⟨some 21, some (some 19, false), .p (.bin .lss (.tmp 20) (ci D 0))⟩, []⟩, (on 22 (.p (.pick (.tmp 19) (.const (.bool true)) (.tmp 21)))), (mv 23 22), ⟨⟨some 24, some (some 23, false), .p (.move (.tmp 1))⟩, []⟩,
 ⟨⟨some 25, some (some 23, false), .p (.bin .lss (.tmp 24) (ci D 0))⟩, []⟩, (on 26 (.p (.pick (.tmp 23) (.const (.bool true)) (.tmp 25)))), (mv 27 26), ⟨⟨some 28, some (some 27, false), .p (.move (.tmp 0))⟩, []⟩,
 ⟨⟨some 29, some (some 27, false), .p (.move (.tmp 2))⟩, []⟩,
 ⟨⟨some 30, some (some 27, false), .p (.bin .shl (ci D 1) (.tmp 29))⟩, []⟩,
 ⟨⟨some 31, some (some 27, false), .p (.bin .geq (.tmp 28) (.tmp 30))⟩, []⟩, (on 32 (.p (.pick (.tmp 27) (.const (.bool true)) (.tmp 31)))), (mv 33 32), ⟨⟨some 34, some (some 33, false), .p (.move (.tmp 1))⟩, []⟩,
 ⟨⟨some 35, some (some 33, false), .p (.move (.tmp 2))⟩, []⟩,
 ⟨⟨some 36, some (some 33, false), .p (.bin .shl (ci D 1) (.tmp 35))⟩, []⟩,
 ⟨⟨some 37, some (some 33, false), .p (.bin .geq (.tmp 34) (.tmp 36))⟩, []⟩, (on 38 (.p (.pick (.tmp 33) (.const (.bool true)) (.tmp 37))))]) (.cond (.tmp 38) (.seq (.region [
 (on 6 (.p (.move (ci D 0)))), (on 7 (.p (.move (ci D 500))))]) (.ret)) (.skip))) (.seq (.region [
 (on 8 (.p (.move (ci D 0))))]) (.seq (.seq (.region [
 (mv 39 2), (on 40 (.p (.bin .sub (.tmp 39) (ci D 1)))), (mv 9 40)]) (.block 0 (.loop (.seq (.seq (.region [
 (mv 41 9), (on 42 (.p (.bin .geq (.tmp 41) (ci D 0))))]) (.cond (.tmp 42) (.skip) (.exit 0))) (.seq (.block 1 (.seq (.region [
 (mv 45 0), (mv 46 9), (on 47 (.p (.bin .shr (.tmp 45) (.tmp 46)))), (on 48 (.p (.bin .and (.tmp 47) (ci D 1)))), (mv 49 1), (mv 50 9), (on 51 (.p (.bin .shr (.tmp 49) (.tmp 50)))), (on 52 (.p (.bin .and (.tmp 51) (ci D 1)))), (mv 53 9), (on 54 (.p (.bin .shl (ci D 1) (.tmp 53)))), (mv 10 48), (mv 11 52), (mv 12 54)]) (.seq (.region [
 (mv 55 8), (mv 56 12), (mv 57 12), (on 58 (.p (.bin .mul (.tmp 56) (.tmp 57)))), (mv 59 10), (on 60 (.p (.bin .mul (ci D 3) (.tmp 59)))), (mv 61 11), (on 62 (.p (.bin .xor (.tmp 60) (.tmp 61)))), (on 63 (.p (.bin .mul (.tmp 58) (.tmp 62)))), (on 64 (.p (.bin .add (.tmp 55) (.tmp 63)))), (mv 8 64)]) (.region [(mv 66 0), (mv 67 12), (on 68 (.p (.bin .sub (.tmp 67) (ci D 1)))), (on 69 (.p (.bin .and (.tmp 66) (.tmp 68)))), (mv 70 1), (mv 71 12), (on 72 (.p (.bin .sub (.tmp 71) (ci D 1)))), (on 73 (.p (.bin .and (.tmp 70) (.tmp 72)))), (mv 74 12), (mv 75 10), (mv 76 11), (on 77 (.call (.const (.func 327 [] [])) [(.tmp 69), (.tmp 73), (.tmp 74), (.tmp 75), (.tmp 76)])), (mv 65 77), (on 78 (.p (.extract 0 (.tmp 65)))), (on 79 (.p (.extract 1 (.tmp 65)))), (mv 0 78), (mv 1 79)])))) (.region [(mv 43 9), (on 44 (.p (.bin .sub (.tmp 43) (ci D 1)))), (mv 9 44)])))))) (.seq (.region [
 (mv 80 8), (mv 6 80), (on 7 (.p (.move (ci D 0))))]) (.ret)))))⟩
theorem lf301_eq (D : Dom I S) : trFunc D (tyFn D) Tryz.f301 = some (lf301 D) := by kernel_rfl
noncomputable def lf302 (D : Dom I S) : LFunc I S := ⟨33, [.tmp 4], .seq (.region [
 (on 3 (.a (.box (.tmp 1)))), (on 4 (.p (.move (.const .nils))))]) (.seq (.seq (.region [
 (mv 6 0), (on 7 (.p (.len (.tmp 6)))), (mv 5 7)]) (.seq (.region [
 (mv 8 5), (on 9 (.p (.bin .gtr (.tmp 8) (ci D 0)))), (mv 10 9), ⟨⟨some 11, some (some 10, true), .p (.move (.tmp 0))⟩, []⟩,
 ⟨⟨some 12, some (some 10, true), .p (.move (.tmp 5))⟩, []⟩,
 ⟨⟨some 13, some (some 10, true), .p (.bin .sub (.tmp 12) (ci D 1))⟩, []⟩,
 ⟨⟨some 14, some (some 10, true), .p (.idxSl 2 (.tmp 11) (.tmp 13))⟩, []⟩,
 ⟨⟨some 15, some (some 10, true), .p (.fieldAddr 1 (.tmp 14))⟩, []⟩,
 ⟨⟨some 16, some (some 10, true), .r (.load false 1 (.tmp 15))⟩, []⟩,
 ⟨⟨some 17, some (some 10, true), .p (.fieldAddr 0 (.tmp 3))⟩, []⟩,
 ⟨⟨some 18, some (some 10, true), .r (.load false 1 (.tmp 17))⟩, []⟩,
 ⟨⟨some 19, some (some 10, true), .p (.bin .eql (.tmp 16) (.tmp 18))⟩, []⟩, (on 20 (.p (.pick (.tmp 10) (.tmp 19) (.const (.bool false)))))]) (.cond (.tmp 20) (.seq (.region [
 (mv 21 0), (mv 22 5), (on 23 (.p (.bin .sub (.tmp 22) (ci D 1)))), (on 24 (.p (.fieldAddr 1 (.tmp 3)))), (on 25 (.r (.load false 1 (.tmp 24)))), (on 26 (.p (.idxSl 2 (.tmp 21) (.tmp 23)))), (on 27 (.p (.fieldAddr 1 (.tmp 26)))), ⟨⟨none, none, .e (.store 1 (.tmp 27) (.tmp 25))⟩, []⟩]) (.seq (.region [
 (mv 28 0), (mv 4 28)]) (.ret))) (.skip)))) (.seq (.region [
 (mv 29 0), (on 30 (.r (.load true 2 (.tmp 3)))), (on 31 (.a (.bslice [(vi D 0), (vi D 0)] 1 2 [(0, (.tmp 30))]))), (on 32 (.e (.append 2 16 (.tmp 29) (.tmp 31)))), (mv 4 32)]) (.ret)))⟩
theorem lf302_eq (D : Dom I S) : trFunc D (tyFn D) Tryz.f302 = some (lf302 D) := by kernel_rfl
noncomputable def lf303 (D : Dom I S) : LFunc I S := ⟨43, [.tmp 2], .seq (.region [
 (on 2 (.p (.move (.const (.bool false)))))]) (.seq (.seq (.region [
 (mv 5 0), (on 6 (.p (.len (.tmp 5)))), (on 7 (.p (.move (ci D 0))))]) (.block 0 (.loop (.seq (.region [
 (on 8 (.p (.bin .lss (.tmp 7) (.tmp 6))))]) (.seq (.cond (.tmp 8) (.skip) (.exit 0)) (.seq (.block 1 (.seq (.region [
 (mv 9 7), (on 10 (.p (.idxSl 2 (.tmp 5) (.tmp 7)))), (on 11 (.r (.load true 2 (.tmp 10)))), (on 4 (.a (.box (.const (.agg [(vi D 0), (vi D 0)]))))), (mv 3 9), ⟨⟨none, none, .e (.store 2 (.tmp 4) (.tmp 11))⟩, []⟩]) (.seq (.region [
 (on 12 (.p (.fieldAddr 0 (.tmp 4)))), (on 13 (.r (.load false 1 (.tmp 12)))), (on 14 (.p (.bin .lss (.tmp 13) (ci D 0)))), (mv 15 14), ⟨⟨some 16, some (some 15, false), .p (.fieldAddr 0 (.tmp 4))⟩, []⟩,
 ⟨⟨some 17, some (some 15, false), .r (.load false 1 (.tmp 16))⟩, []⟩,
 ⟨⟨some 18, some (some 15, false), .p (.fieldAddr 1 (.tmp 4))⟩, []⟩,
 ⟨⟨some 19, some (some 15, false), .r (.load false 1 (.tmp 18))⟩, []⟩,
 ⟨⟨some 20, some (some 15, false), .p (.bin .geq (.tmp 17) (.tmp 19))⟩, []⟩, (on 21 (.p (.pick (.tmp 15) (.const (.bool true)) (.tmp 20)))), (mv 22 21), ⟨⟨some 23, some (some 22, false), .p (.fieldAddr 1 (.tmp 4))⟩, []⟩,
 ⟨⟨some 24, some (some 22, false), .r (.load false 1 (.tmp 23))⟩, []⟩,
 ⟨⟨some 25, some (some 22, false), .p (.bin .gtr (.tmp 24) (ci D 4294967296))⟩, []⟩, (on 26 (.p (.pick (.tmp 22) (.const (.bool true)) (.tmp 25)))), (mv 27 26), ⟨⟨some 28, some (some 27, false), .p (.move (.tmp 3))⟩, []⟩,
 ⟨⟨some 29, some (some 27, false), .p (.bin .gtr (.tmp 28) (ci D 0))⟩, []⟩,
 ⟨⟨some 30, some (some 27, false), .p (.move (.tmp 29))⟩, []⟩,
 ⟨⟨some 31, some (some 30, true), .p (.fieldAddr 0 (.tmp 4))⟩, []⟩,
 ⟨⟨some 32, some (some 30, true), .r (.load false 1 (.tmp 31))⟩, []⟩,
 ⟨⟨some 33, some (some 30, true), .p (.move (.tmp 0))⟩, []⟩,
 ⟨⟨some 34, some (some 30, true), .p (.move (.tmp 3))⟩, []⟩,
 ⟨⟨some 35, some (some 30, true), .p (.bin .sub (.tmp 34) (ci D 1))⟩, []⟩,
 ⟨⟨some 36, some (some 30, true), .p (.idxSl 2 (.tmp 33) (.tmp 35))⟩, []⟩,
 ⟨⟨some 37, some (some 30, true), .p (.fieldAddr 1 (.tmp 36))⟩, []⟩,
 ⟨⟨some 38, some (some 30, true), .r (.load false 1 (.tmp 37))⟩, []⟩,
 ⟨⟨some 39, some (some 30, true), .p (.bin .leq (.tmp 32) (.tmp 38))⟩, []⟩,
 ⟨⟨some 40, some (some 27, false), .p (.pick (.tmp 30) (.tmp 39) (.const (.bool false)))⟩, []⟩, (on 41 (.p (.pick (.tmp 27) (.const (.bool true)) (.tmp 40))))]) (.cond (.tmp 41) (.seq (.region [
 (on 2 (.p (.move (.const (.bool false)))))]) (.ret)) (.skip))))) (.region [(on 42 (.p (.bin .add (.tmp 7) (ci D 1)))), (mv 7 42)]))))))) (.seq (.region [
 (on 2 (.p (.move (.const (.bool true)))))]) (.ret)))⟩
theorem lf303_eq (D : Dom I S) : trFunc D (tyFn D) Tryz.f303 = some (lf303 D) := by kernel_rfl
noncomputable def lf304 (D : Dom I S) : LFunc I S := ⟨61, [.tmp 2], .seq (.region [
 (on 2 (.p (.move (.const .nils))))]) (.seq (.seq (.region [
 (mv 6 0), (on 7 (.p (.len (.tmp 6)))), (on 8 (.p (.bin .lss (.tmp 7) (ci D 2))))]) (.cond (.tmp 8) (.seq (.region [
 (mv 9 0), (mv 2 9)]) (.ret)) (.skip))) (.seq (.seq (.region [
 (on 3 (.p (.move (ci D 1))))]) (.block 0 (.loop (.seq (.seq (.region [
 (mv 10 3), (mv 11 0), (on 12 (.p (.len (.tmp 11)))), (on 13 (.p (.bin .lss (.tmp 10) (.tmp 12))))]) (.cond (.tmp 13) (.skip) (.exit 0))) (.seq (.block 1 (.seq (.region [
 (mv 16 0), (mv 17 3), (on 18 (.p (.idxSl 1 (.tmp 16) (.tmp 17)))), (on 19 (.r (.load false 1 (.tmp 18)))), (mv 20 0), (mv 21 3), (on 22 (.p (.bin .sub (.tmp 21) (ci D 1)))), (on 23 (.p (.idxSl 1 (.tmp 20) (.tmp 22)))), (on 24 (.r (.load false 1 (.tmp 23)))), (on 25 (.p (.bin .eql (.tmp 19) (.tmp 24))))]) (.cond (.tmp 25) (.seq (.region [
 (mv 26 0), (mv 27 3), (on 28 (.p (.slSl 1 (.tmp 26) (some (.tmp 27)) none none))), (mv 4 28)]) (.seq (.seq (.region [
 (on 5 (.p (.move (ci D 1))))]) (.block 2 (.loop (.seq (.seq (.region [
 (mv 29 5), (mv 30 4), (on 31 (.p (.len (.tmp 30)))), (on 32 (.p (.bin .lss (.tmp 29) (.tmp 31))))]) (.cond (.tmp 32) (.skip) (.exit 2))) (.seq (.block 3 (.seq (.region [
 (mv 35 4), (mv 36 5), (on 37 (.p (.idxSl 1 (.tmp 35) (.tmp 36)))), (on 38 (.r (.load false 1 (.tmp 37)))), (mv 39 4), (mv 40 5), (on 41 (.p (.bin .sub (.tmp 40) (ci D 1)))), (on 42 (.p (.idxSl 1 (.tmp 39) (.tmp 41)))), (on 43 (.r (.load false 1 (.tmp 42)))), (on 44 (.p (.bin .neq (.tmp 38) (.tmp 43))))]) (.cond (.tmp 44) (.seq (.region [
 (mv 45 0), (mv 46 3), (mv 47 4), (mv 48 5), (on 49 (.p (.idxSl 1 (.tmp 47) (.tmp 48)))), (on 50 (.r (.load false 1 (.tmp 49)))), (on 51 (.p (.idxSl 1 (.tmp 45) (.tmp 46)))), ⟨⟨none, none, .e (.store 1 (.tmp 51) (.tmp 50))⟩, []⟩]) (.region [(mv 52 3), (on 53 (.p (.bin .add (.tmp 52) (ci D 1)))), (mv 3 53)])) (.skip)))) (.region [(mv 33 5), (on 34 (.p (.bin .add (.tmp 33) (ci D 1)))), (mv 5 34)])))))) (.seq (.region [
 (mv 54 0), (mv 55 3), (on 56 (.p (.slSl 1 (.tmp 54) (some (.tmp 55)) none none))), ⟨⟨none, none, .e (.clear [(vi D 0)] (.tmp 56))⟩, []⟩]) (.seq (.region [
 (mv 57 0), (mv 58 3), (on 59 (.p (.slSl 1 (.tmp 57) none (some (.tmp 58)) none))), (mv 2 59)]) (.ret))))) (.skip)))) (.region [(mv 14 3), (on 15 (.p (.bin .add (.tmp 14) (ci D 1)))), (mv 3 15)])))))) (.seq (.region [
 (mv 60 0), (mv 2 60)]) (.ret))))⟩
theorem lf304_eq (D : Dom I S) : trFunc D (tyFn D) Tryz.f304 = some (lf304 D) := by kernel_rfl
noncomputable def lf305 (D : Dom I S) : LFunc I S := ⟨19, [.tmp 4], .seq (.region [
 (on 4 (.p (.move (ci D 0))))]) (.seq (.seq (.region [
 (mv 6 0), (on 7 (.p (.len (.tmp 6)))), (on 8 (.p (.move (ci D 0))))]) (.block 0 (.loop (.seq (.region [
 (on 9 (.p (.bin .lss (.tmp 8) (.tmp 7))))]) (.seq (.cond (.tmp 9) (.skip) (.exit 0)) (.seq (.block 1 (.seq (.region [
 (mv 10 8), (mv 5 10)]) (.seq (.region [
 (mv 11 1), (mv 12 0), (mv 13 5), (on 14 (.p (.idxSl 1 (.tmp 12) (.tmp 13)))), (on 15 (.r (.load false 1 (.tmp 14)))), (on 16 (.p (.bin .eql (.tmp 11) (.tmp 15))))]) (.cond (.tmp 16) (.seq (.region [
 (mv 17 5), (mv 4 17)]) (.ret)) (.skip))))) (.region [(on 18 (.p (.bin .add (.tmp 8) (ci D 1)))), (mv 8 18)]))))))) (.seq (.region [
 (on 4 (.p (.move (.const (.int .i64 (D.ofInt (.negSucc 0)))))))]) (.ret)))⟩
theorem lf305_eq (D : Dom I S) : trFunc D (tyFn D) Tryz.f305 = some (lf305 D) := by kernel_rfl
noncomputable def lf308 (D : Dom I S) : LFunc I S := ⟨67, [.tmp 4], .seq (.region [
 (on 3 (.a (.box (.tmp 1)))), (on 4 (.p (.move (.const .nilp))))]) (.seq (.seq (.region [
 (mv 7 0), (on 8 (.p (.nilchk (.tmp 7)))), (on 9 (.p (.fieldAddr 0 (.tmp 8)))), (on 10 (.r (.load false 1 (.tmp 9))))]) (.cond (.tmp 10) (.region [(mv 11 0), (mv 12 0), (on 13 (.p (.nilchk (.tmp 12)))), (on 14 (.p (.fieldAddr 1 (.tmp 13)))), (on 15 (.r (.load false 1 (.tmp 14)))), (on 16 (.r (.load true 7 (.tmp 3)))), (on 17 (.a (.bslice [(vi D 0), (vi D 0), (vi D 0), (vi D 0), (vi D 0), .nilp, (.bool false)] 1 7 [(0, (.tmp 16))]))), (on 18 (.e (.append 7 56 (.tmp 15) (.tmp 17)))), (on 19 (.p (.nilchk (.tmp 11)))), (on 20 (.p (.fieldAddr 1 (.tmp 19)))), ⟨⟨none, none, .e (.store 1 (.tmp 20) (.tmp 18))⟩, []⟩]) (.seq (.region [
 (mv 21 0), (on 22 (.p (.nilchk (.tmp 21)))), (on 23 (.p (.fieldAddr 1 (.tmp 22)))), (on 24 (.r (.load false 1 (.tmp 23)))), (mv 25 0), (on 26 (.p (.fieldAddr 0 (.tmp 3)))), (on 27 (.r (.load true 4 (.tmp 26)))), ⟨⟨some 28, none, .call (.const (.func 332 [] [])) [(.tmp 25), (.tmp 27)]⟩, [⟨some 24, none, .r (.load false 1 (.tmp 23))⟩]⟩, (on 29 (.p (.idxSl 7 (.tmp 24) (.tmp 28)))), (mv 5 29)]) (.seq (.region [
 (mv 30 5), (on 31 (.p (.nilchk (.tmp 30)))), (on 32 (.p (.fieldAddr 5 (.tmp 31)))), (on 33 (.r (.load false 1 (.tmp 32)))), (on 34 (.r (.load true 7 (.tmp 3)))), (on 35 (.call (.const (.func 308 [] [])) [(.tmp 33), (.tmp 34)])), (mv 6 35)]) (.seq (.region [
 (mv 36 5), (mv 37 5), (on 38 (.p (.nilchk (.tmp 37)))), (on 39 (.p (.fieldAddr 5 (.tmp 38)))), (on 40 (.r (.load false 1 (.tmp 39)))), (on 41 (.call (.const (.func 309 [] [])) [(.tmp 40)])), (on 42 (.p (.nilchk (.tmp 36)))), (on 43 (.p (.fieldAddr 0 (.tmp 42)))), ⟨⟨none, none, .e (.store 4 (.tmp 43) (.tmp 41))⟩, []⟩]) (.seq (.region [
 (mv 44 6), (on 45 (.r (.eqRef .ptr true (.tmp 44) (.const .nilp))))]) (.cond (.tmp 45) (.region [(mv 46 0), (mv 47 0), (on 48 (.p (.nilchk (.tmp 47)))), (on 49 (.p (.fieldAddr 1 (.tmp 48)))), (on 50 (.r (.load false 1 (.tmp 49)))), (mv 51 6), (mv 53 6), ⟨⟨some 52, none, .call (.const (.func 309 [] [])) [(.tmp 51)]⟩, [⟨some 50, none, .r (.load false 1 (.tmp 49))⟩]⟩, (on 54 (.p (.build [(vi D 0), (vi D 0), (vi D 0), (vi D 0), (vi D 0), .nilp, (.bool false)] [(0, 4, (.tmp 52)), (5, 1, (.tmp 53))]))), (on 55 (.a (.bslice [(vi D 0), (vi D 0), (vi D 0), (vi D 0), (vi D 0), .nilp, (.bool false)] 1 7 [(0, (.tmp 54))]))), (on 56 (.e (.append 7 56 (.tmp 50) (.tmp 55)))), (on 57 (.p (.nilchk (.tmp 46)))), (on 58 (.p (.fieldAddr 1 (.tmp 57)))), ⟨⟨none, none, .e (.store 1 (.tmp 58) (.tmp 56))⟩, []⟩]) (.skip)))))))) (.seq (.seq (.region [
 (mv 59 0), (on 60 (.p (.nilchk (.tmp 59)))), (on 61 (.p (.fieldAddr 1 (.tmp 60)))), (on 62 (.r (.load false 1 (.tmp 61)))), (on 63 (.p (.len (.tmp 62)))), (on 64 (.p (.bin .leq (.tmp 63) (ci D 6))))]) (.cond (.tmp 64) (.seq (.region [
 (on 4 (.p (.move (.const .nilp))))]) (.ret)) (.skip))) (.seq (.region [
 (mv 65 0), (on 66 (.call (.const (.func 333 [] [])) [(.tmp 65)])), (mv 4 66)]) (.ret))))⟩
theorem lf308_eq (D : Dom I S) : trFunc D (tyFn D) Tryz.f308 = some (lf308 D) := by kernel_rfl
noncomputable def lf310 (D : Dom I S) : LFunc I S := ⟨19, [.tmp 4], .seq (.region [
 (on 4 (.p (.move (ci D 0))))]) (.seq (.seq (.region [
 (mv 6 0), (on 7 (.p (.len (.tmp 6)))), (on 8 (.p (.move (ci D 0))))]) (.block 0 (.loop (.seq (.region [
 (on 9 (.p (.bin .lss (.tmp 8) (.tmp 7))))]) (.seq (.cond (.tmp 9) (.skip) (.exit 0)) (.seq (.block 1 (.seq (.region [
 (mv 10 8), (mv 5 10)]) (.seq (.region [
 (mv 11 1), (mv 12 0), (mv 13 5), (on 14 (.p (.idxSl 2 (.tmp 12) (.tmp 13)))), (on 15 (.r (.load true 2 (.tmp 14)))), (on 16 (.call (.tmp 11) [(.tmp 15)]))]) (.cond (.tmp 16) (.seq (.region [
 (mv 17 5), (mv 4 17)]) (.ret)) (.skip))))) (.region [(on 18 (.p (.bin .add (.tmp 8) (ci D 1)))), (mv 8 18)]))))))) (.seq (.region [
 (on 4 (.p (.move (.const (.int .i64 (D.ofInt (.negSucc 0)))))))]) (.ret)))⟩
theorem lf310_eq (D : Dom I S) : trFunc D (tyFn D) Tryz.f310 = some (lf310 D) := by kernel_rfl
noncomputable def lf311 (D : Dom I S) : LFunc I S := ⟨53, [], .seq (.region [
 (mv 10 1), (on 11 (.p (.bin .add (.tmp 10) (ci D 1)))), (mv 8 11)]) (.block 0 (.loop (.seq (.seq (.region [
 (mv 12 8), (mv 13 2), (on 14 (.p (.bin .lss (.tmp 12) (.tmp 13))))]) (.cond (.tmp 14) (.skip) (.exit 0))) (.seq (.block 1 (.seq (.region [
 (mv 17 8), (mv 9 17)]) (.block 2 (.loop (.seq (.seq (.region [
 (mv 18 9), (mv 19 1), (on 20 (.p (.bin .gtr (.tmp 18) (.tmp 19)))), (mv 21 20), ⟨⟨some 22, some (some 21, true), .p (.move (.tmp 3))⟩, []⟩,
 ⟨⟨some 23, some (some 21, true), .p (.move (.tmp 0))⟩, []⟩,
 ⟨⟨some 24, some (some 21, true), .p (.move (.tmp 9))⟩, []⟩,
 ⟨⟨some 25, some (some 21, true), .p (.idxSl 3 (.tmp 23) (.tmp 24))⟩, []⟩,
 ⟨⟨some 26, some (some 21, true), .r (.load true 3 (.tmp 25))⟩, []⟩,
 ⟨⟨some 27, some (some 21, true), .p (.move (.tmp 0))⟩, []⟩,
 ⟨⟨some 28, some (some 21, true), .p (.move (.tmp 9))⟩, []⟩,
 ⟨⟨some 29, some (some 21, true), .p (.bin .sub (.tmp 28) (ci D 1))⟩, []⟩,
 ⟨⟨some 30, some (some 21, true), .p (.idxSl 3 (.tmp 27) (.tmp 29))⟩, []⟩,
 ⟨⟨some 31, some (some 21, true), .r (.load true 3 (.tmp 30))⟩, []⟩,
 ⟨⟨some 32, some (some 21, true), .call (.tmp 22) [(.tmp 26), (.tmp 31)]⟩, []⟩,
 ⟨⟨some 33, some (some 21, true), .p (.bin .lss (.tmp 32) (ci D 0))⟩, []⟩, (on 34 (.p (.pick (.tmp 21) (.tmp 33) (.const (.bool false)))))]) (.cond (.tmp 34) (.skip) (.exit 2))) (.seq (.block 3 (.region [(mv 37 0), (mv 38 9), (mv 39 0), (mv 40 9), (on 41 (.p (.bin .sub (.tmp 40) (ci D 1)))), (mv 42 0), (mv 43 9), (on 44 (.p (.bin .sub (.tmp 43) (ci D 1)))), (on 45 (.p (.idxSl 3 (.tmp 42) (.tmp 44)))), (on 46 (.r (.load true 3 (.tmp 45)))), (mv 47 0), (mv 48 9), (on 49 (.p (.idxSl 3 (.tmp 47) (.tmp 48)))), (on 50 (.r (.load true 3 (.tmp 49)))), (on 51 (.p (.idxSl 3 (.tmp 37) (.tmp 38)))), ⟨⟨none, none, .e (.store 3 (.tmp 51) (.tmp 46))⟩, []⟩, (on 52 (.p (.idxSl 3 (.tmp 39) (.tmp 41)))), ⟨⟨none, none, .e (.store 3 (.tmp 52) (.tmp 50))⟩, []⟩])) (.region [(mv 35 9), (on 36 (.p (.bin .sub (.tmp 35) (ci D 1)))), (mv 9 36)]))))))) (.region [(mv 15 8), (on 16 (.p (.bin .add (.tmp 15) (ci D 1)))), (mv 8 16)])))))⟩
theorem lf311_eq (D : Dom I S) : trFunc D (tyFn D) Tryz.f311 = some (lf311 D) := by kernel_rfl
noncomputable def lf317 (D : Dom I S) : LFunc I S := ⟨54, [.tmp 4, .tmp 5], .seq (.region [
 (on 4 (.p (.move (ci D 0)))), (on 5 (.p (.move (.const (.bool false)))))]) (.seq (.region [
 (mv 10 0), (on 11 (.p (.len (.tmp 10)))), (mv 6 11)]) (.seq (.region [
 (mv 12 6), (on 7 (.p (.move (ci D 0)))), (mv 8 12)]) (.seq (.block 0 (.loop (.seq (.seq (.region [
 (mv 13 7), (mv 14 8), (on 15 (.p (.bin .lss (.tmp 13) (.tmp 14))))]) (.cond (.tmp 15) (.skip) (.exit 0))) (.block 1 (.seq (.region [
 (mv 16 7), (mv 17 8), (on 18 (.p (.bin .add (.tmp 16) (.tmp 17)))), (on 19 (.p (.convInt .u64 (.tmp 18)))), (on 20 (.p (.bin .shr (.tmp 19) (.const (.int .u64 (D.ofInt (.ofNat 1))))))), (on 21 (.p (.convInt .i64 (.tmp 20)))), (mv 9 21)]) (.seq (.region [
 (mv 22 0), (mv 23 9), (on 24 (.p (.idxSl 1 (.tmp 22) (.tmp 23)))), (on 25 (.r (.load false 1 (.tmp 24)))), (mv 26 1), (on 27 (.call (.const (.func 294 [] [])) [(.tmp 25), (.tmp 26)]))]) (.cond (.tmp 27) (.region [(mv 28 9), (on 29 (.p (.bin .add (.tmp 28) (ci D 1)))), (mv 7 29)]) (.region [(mv 30 9), (mv 8 30)])))))))) (.seq (.region [
 (mv 31 7), (mv 32 7), (mv 33 6), (on 34 (.p (.bin .lss (.tmp 32) (.tmp 33)))), (mv 35 34), ⟨⟨some 36, some (some 35, true), .p (.move (.tmp 0))⟩, []⟩,
 ⟨⟨some 37, some (some 35, true), .p (.move (.tmp 7))⟩, []⟩,
 ⟨⟨some 38, some (some 35, true), .p (.idxSl 1 (.tmp 36) (.tmp 37))⟩, []⟩,
 ⟨⟨some 39, some (some 35, true), .r (.load false 1 (.tmp 38))⟩, []⟩,
 ⟨⟨some 40, some (some 35, true), .p (.move (.tmp 1))⟩, []⟩,
 ⟨⟨some 41, some (some 35, true), .p (.bin .eql (.tmp 39) (.tmp 40))⟩, []⟩,
 ⟨⟨some 42, some (some 35, true), .p (.move (.tmp 41))⟩, []⟩,
 ⟨⟨some 43, some (some 42, false), .p (.move (.tmp 0))⟩, []⟩,
 ⟨⟨some 44, some (some 42, false), .p (.move (.tmp 7))⟩, []⟩,
 ⟨⟨some 45, some (some 42, false), .p (.idxSl 1 (.tmp 43) (.tmp 44))⟩, []⟩,
 ⟨⟨some 46, some (some 42, false), .r (.load false 1 (.tmp 45))⟩, []⟩,
 ⟨⟨some 47, some (some 42, false), .call (.const (.func 345 [] [])) [(.tmp 46)]⟩, []⟩,
 ⟨⟨some 48, some (some 42, false), .p (.move (.tmp 47))⟩, []⟩,
 ⟨⟨some 49, some (some 48, true), .p (.move (.tmp 1))⟩, []⟩,
 ⟨⟨some 50, some (some 48, true), .call (.const (.func 345 [] [])) [(.tmp 49)]⟩, []⟩,
 ⟨⟨some 51, some (some 42, false), .p (.pick (.tmp 48) (.tmp 50) (.const (.bool false)))⟩, []⟩,
 ⟨⟨some 52, some (some 35, true), .p (.pick (.tmp 42) (.const (.bool true)) (.tmp 51))⟩, []⟩, (on 53 (.p (.pick (.tmp 35) (.tmp 52) (.const (.bool false))))), (mv 4 31), (mv 5 53)]) (.ret)))))⟩
theorem lf317_eq (D : Dom I S) : trFunc D (tyFn D) Tryz.f317 = some (lf317 D) := by kernel_rfl
noncomputable def lf327 (D : Dom I S) : LFunc I S := ⟨28, [.tmp 10, .tmp 11], .seq (.region [
 (on 10 (.p (.move (ci D 0)))), (on 11 (.p (.move (ci D 0))))]) (.seq (.seq (.region [
 (mv 12 4), (on 13 (.p (.bin .eql (.tmp 12) (ci D 1))))]) (.cond (.tmp 13) (.seq (.region [
 (mv 14 0), (mv 15 1), (mv 10 14), (mv 11 15)]) (.ret)) (.skip))) (.seq (.seq (.region [
 (mv 16 3), (on 17 (.p (.bin .eql (.tmp 16) (ci D 1))))]) (.cond (.tmp 17) (.region [(mv 18 2), (on 19 (.p (.bin .sub (.tmp 18) (ci D 1)))), (mv 20 0), (on 21 (.p (.bin .sub (.tmp 19) (.tmp 20)))), (mv 22 2), (on 23 (.p (.bin .sub (.tmp 22) (ci D 1)))), (mv 24 1), (on 25 (.p (.bin .sub (.tmp 23) (.tmp 24)))), (mv 0 21), (mv 1 25)]) (.skip))) (.seq (.region [
 (mv 26 1), (mv 27 0), (mv 10 26), (mv 11 27)]) (.ret))))⟩
theorem lf327_eq (D : Dom I S) : trFunc D (tyFn D) Tryz.f327 = some (lf327 D) := by kernel_rfl
end
end Go.Proofs.YtohmaikcmaapjaaGreat.LI
