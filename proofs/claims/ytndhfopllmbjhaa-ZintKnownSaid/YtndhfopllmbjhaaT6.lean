-- The seat's functions as the evaluator goes through them: typed models and their laws.
import Derived.Test.YtndhfopllmbjhaaProg
import Derived.Test.YtndhfopllmbjhaaEvUse
import Derived.Test.YtndhfopllmbjhaaT5
import Derived.KernelRfl
namespace Go.Proofs.Ytndhfopllmbjhaa
open Go.Proofs.Ytndhfopllmbjhaa.Ev
set_option linter.unusedVariables false
open Go
def str8 : ByteArray := ⟨#[43, 49]⟩
def str9 : ByteArray := ⟨#[48, 49]⟩
def str10 : ByteArray := ⟨#[45, 51]⟩
def str11 : ByteArray := ⟨#[52]⟩
noncomputable def ty80 : TI := ⟨.arr 5 2, 5, 40, [.int .i64 0, .int .i64 0, .int .i64 0, .int .i64 0, .int .i64 0]⟩
noncomputable def ty81 : TI := ⟨.slice 80, 1, 24, [.slice none 0 0]⟩
theorem ty80_ok : TyOK1 Try.prog 80 ty80 := tyok_of (by kernel_rfl) (by kernel_rfl) (by kernel_rfl) (by kernel_rfl) (by kernel_rfl) (by kernel_rfl) (by kernel_rfl) (Try.underlying80) (by kernel_rfl)
theorem ty81_ok : TyOK1 Try.prog 81 ty81 := tyok_of (by kernel_rfl) (by kernel_rfl) (by kernel_rfl) (by kernel_rfl) (by kernel_rfl) (by kernel_rfl) (by kernel_rfl) (Try.underlying81) (by kernel_rfl)
/-! parquet/parquetlaw02.ZintKnown: function 10 -/
noncomputable def parquetlaw02_ZintKnown.f (N : Nat) : Option (Bool) :=
  (zint_Parse.f N str2).bind fun r1 =>
  (zint_Parse.f N str8).bind fun r2 =>
  (zint_Parse.f N str9).bind fun r3 =>
  (zint_Parse.f N ByteArray.empty).bind fun r4 =>
  (zint_Parse.f N str3).bind fun r5 =>
  (zint_Of.f N 7).bind fun r6 =>
  (zint_Of.f N (-2)).bind fun r7 =>
  (zint_Quo.f N r6.1 r6.2 r7.1 r7.2).bind fun r8 =>
  (zint_Of.f N (-7)).bind fun r9 =>
  (zint_Of.f N (-2)).bind fun r10 =>
  (zint_Quo.f N r9.1 r9.2 r10.1 r10.2).bind fun r11 =>
  (zint_Of.f N 1).bind fun r12 =>
  (zint_Of.f N 0).bind fun r13 =>
  (zint_Quo.f N r12.1 r12.2 r13.1 r13.2).bind fun r14 =>
  (zint_Of.f N 12).bind fun r15 =>
  (zint_Of.f N (-4)).bind fun r16 =>
  (zint_Exact.f N r15.1 r15.2 r16.1 r16.2).bind fun r17 =>
  (zint_Of.f N 12).bind fun r18 =>
  (zint_Of.f N 5).bind fun r19 =>
  (zint_Exact.f N r18.1 r18.2 r19.1 r19.2).bind fun r20 =>
  bif r1.2.2 == 12 then
    bif r2.2.2 == 12 then
      bif r3.2.2 == 12 then
        bif r4.2.2 == 12 then
          bif r5.2.2 == 12 then
            (zint_Int_Text.f N r8.1 r8.2.1).bind fun r21 =>
            bif r21.toList == str10.toList then
              (zint_Int_Text.f N r8.2.2.1 r8.2.2.2.1).bind fun r22 =>
              bif r22.toList == str6.toList then
                (zint_Int_Text.f N r11.1 r11.2.1).bind fun r23 =>
                bif r23.toList == str11.toList then
                  (zint_Int_Text.f N r11.2.2.1 r11.2.2.2.1).bind fun r24 =>
                  bif r24.toList == str6.toList then
                    bif r14.2.2.2.2 == 11 then
                      (zint_Int_Text.f N r17.1 r17.2.1).bind fun r25 =>
                      bif r25.toList == str10.toList then
                        bif r17.2.2 == 0 then
                          (zint_Of.f N 12).bind fun r26 =>
                          (zint_Of.f N 18).bind fun r27 =>
                          (zint_Gcd.f N r26.1 r26.2 r27.1 r27.2).bind fun r28 =>
                          (zint_Make.f N false r28.1).bind fun r29 =>
                          (zint_Of.f N 6).bind fun r30 =>
                          (zint_Cmp.f N r29.1 r29.2 r30.1 r30.2).bind fun r31 =>
                          bif r31 != 0 then
                            some false
                          else
                          (zint_Of.f N 2).bind fun r32 =>
                          (zint_Cmp.f N r28.2.1 r28.2.2.1 r32.1 r32.2).bind fun r33 =>
                          bif r33 != 0 then
                            some false
                          else
                          (zint_Of.f N (-1)).bind fun r34 =>
                          (zint_Cmp.f N r28.2.2.2.1 r28.2.2.2.2 r34.1 r34.2).bind fun r35 =>
                          bif r35 != 0 then
                            some false
                          else
                          (zint_Of.f N (-12)).bind fun r36 =>
                          (zint_Of.f N 18).bind fun r37 =>
                          (zint_Gcd.f N r36.1 r36.2 r37.1 r37.2).bind fun r38 =>
                          (zint_Make.f N false r38.1).bind fun r39 =>
                          (zint_Of.f N 6).bind fun r40 =>
                          (zint_Cmp.f N r39.1 r39.2 r40.1 r40.2).bind fun r41 =>
                          bif r41 != 0 then
                            some false
                          else
                          (zint_Of.f N 1).bind fun r42 =>
                          (zint_Cmp.f N r38.2.1 r38.2.2.1 r42.1 r42.2).bind fun r43 =>
                          bif r43 != 0 then
                            some false
                          else
                          (zint_Of.f N 1).bind fun r44 =>
                          (zint_Cmp.f N r38.2.2.2.1 r38.2.2.2.2 r44.1 r44.2).bind fun r45 =>
                          bif r45 != 0 then
                            some false
                          else
                          (zint_Of.f N 5).bind fun r46 =>
                          (zint_Of.f N 0).bind fun r47 =>
                          (zint_Gcd.f N r46.1 r46.2 r47.1 r47.2).bind fun r48 =>
                          (zint_Make.f N false r48.1).bind fun r49 =>
                          (zint_Of.f N 5).bind fun r50 =>
                          (zint_Cmp.f N r49.1 r49.2 r50.1 r50.2).bind fun r51 =>
                          bif r51 != 0 then
                            some false
                          else
                          (zint_Of.f N 1).bind fun r52 =>
                          (zint_Cmp.f N r48.2.1 r48.2.2.1 r52.1 r52.2).bind fun r53 =>
                          bif r53 != 0 then
                            some false
                          else
                          (zint_Of.f N 0).bind fun r54 =>
                          (zint_Cmp.f N r48.2.2.2.1 r48.2.2.2.2 r54.1 r54.2).bind fun r55 =>
                          bif r55 != 0 then
                            some false
                          else
                          (zint_Of.f N (-5)).bind fun r56 =>
                          (zint_Of.f N 0).bind fun r57 =>
                          (zint_Gcd.f N r56.1 r56.2 r57.1 r57.2).bind fun r58 =>
                          (zint_Make.f N false r58.1).bind fun r59 =>
                          (zint_Of.f N 5).bind fun r60 =>
                          (zint_Cmp.f N r59.1 r59.2 r60.1 r60.2).bind fun r61 =>
                          bif r61 != 0 then
                            some false
                          else
                          (zint_Of.f N (-1)).bind fun r62 =>
                          (zint_Cmp.f N r58.2.1 r58.2.2.1 r62.1 r62.2).bind fun r63 =>
                          bif r63 != 0 then
                            some false
                          else
                          (zint_Of.f N 0).bind fun r64 =>
                          (zint_Cmp.f N r58.2.2.2.1 r58.2.2.2.2 r64.1 r64.2).bind fun r65 =>
                          bif r65 != 0 then
                            some false
                          else
                          (zint_Of.f N 0).bind fun r66 =>
                          (zint_Of.f N (-7)).bind fun r67 =>
                          (zint_Gcd.f N r66.1 r66.2 r67.1 r67.2).bind fun r68 =>
                          (zint_Make.f N false r68.1).bind fun r69 =>
                          (zint_Of.f N 7).bind fun r70 =>
                          (zint_Cmp.f N r69.1 r69.2 r70.1 r70.2).bind fun r71 =>
                          bif r71 != 0 then
                            some false
                          else
                          (zint_Of.f N 0).bind fun r72 =>
                          (zint_Cmp.f N r68.2.1 r68.2.2.1 r72.1 r72.2).bind fun r73 =>
                          bif r73 != 0 then
                            some false
                          else
                          (zint_Of.f N (-1)).bind fun r74 =>
                          (zint_Cmp.f N r68.2.2.2.1 r68.2.2.2.2 r74.1 r74.2).bind fun r75 =>
                          bif r75 != 0 then
                            some false
                          else
                          (zint_Of.f N 0).bind fun r76 =>
                          (zint_Of.f N 0).bind fun r77 =>
                          (zint_Gcd.f N r76.1 r76.2 r77.1 r77.2).bind fun r78 =>
                          (zint_Make.f N false r78.1).bind fun r79 =>
                          (zint_Of.f N 0).bind fun r80 =>
                          (zint_Cmp.f N r79.1 r79.2 r80.1 r80.2).bind fun r81 =>
                          bif r81 != 0 then
                            some false
                          else
                          (zint_Of.f N 0).bind fun r82 =>
                          (zint_Cmp.f N r78.2.1 r78.2.2.1 r82.1 r82.2).bind fun r83 =>
                          bif r83 != 0 then
                            some false
                          else
                          (zint_Of.f N 0).bind fun r84 =>
                          (zint_Cmp.f N r78.2.2.2.1 r78.2.2.2.2 r84.1 r84.2).bind fun r85 =>
                          bif r85 != 0 then
                            some false
                          else
                          (zint_Of.f N (-9223372036854775808)).bind fun r86 =>
                          (zint_Neg.f N r86.1 r86.2).bind fun r87 =>
                          (zint_Int_Int64.f N r87.1 r87.2).bind fun r88 =>
                          (zint_Int_Int64.f N r86.1 r86.2).bind fun r89 =>
                          bif r20.2.2 == 2 then
                            bif r88.1 == 0 then
                              bif !r88.2 then
                                bif r89.1 == (-9223372036854775808) then
                                  bif r89.2 then
                                    (parquetlaw02_wakes.f N).bind fun r90 =>
                                    some r90
                                  else
                                  some false
                                else
                                some false
                              else
                              some false
                            else
                            some false
                          else
                          some false
                        else
                        (zint_Of.f N 12).bind fun r91 =>
                        (zint_Of.f N 18).bind fun r92 =>
                        (zint_Gcd.f N r91.1 r91.2 r92.1 r92.2).bind fun r93 =>
                        (zint_Make.f N false r93.1).bind fun r94 =>
                        (zint_Of.f N 6).bind fun r95 =>
                        (zint_Cmp.f N r94.1 r94.2 r95.1 r95.2).bind fun r96 =>
                        bif r96 != 0 then
                          some false
                        else
                        (zint_Of.f N 2).bind fun r97 =>
                        (zint_Cmp.f N r93.2.1 r93.2.2.1 r97.1 r97.2).bind fun r98 =>
                        bif r98 != 0 then
                          some false
                        else
                        (zint_Of.f N (-1)).bind fun r99 =>
                        (zint_Cmp.f N r93.2.2.2.1 r93.2.2.2.2 r99.1 r99.2).bind fun r100 =>
                        bif r100 != 0 then
                          some false
                        else
                        (zint_Of.f N (-12)).bind fun r101 =>
                        (zint_Of.f N 18).bind fun r102 =>
                        (zint_Gcd.f N r101.1 r101.2 r102.1 r102.2).bind fun r103 =>
                        (zint_Make.f N false r103.1).bind fun r104 =>
                        (zint_Of.f N 6).bind fun r105 =>
                        (zint_Cmp.f N r104.1 r104.2 r105.1 r105.2).bind fun r106 =>
                        bif r106 != 0 then
                          some false
                        else
                        (zint_Of.f N 1).bind fun r107 =>
                        (zint_Cmp.f N r103.2.1 r103.2.2.1 r107.1 r107.2).bind fun r108 =>
                        bif r108 != 0 then
                          some false
                        else
                        (zint_Of.f N 1).bind fun r109 =>
                        (zint_Cmp.f N r103.2.2.2.1 r103.2.2.2.2 r109.1 r109.2).bind fun r110 =>
                        bif r110 != 0 then
                          some false
                        else
                        (zint_Of.f N 5).bind fun r111 =>
                        (zint_Of.f N 0).bind fun r112 =>
                        (zint_Gcd.f N r111.1 r111.2 r112.1 r112.2).bind fun r113 =>
                        (zint_Make.f N false r113.1).bind fun r114 =>
                        (zint_Of.f N 5).bind fun r115 =>
                        (zint_Cmp.f N r114.1 r114.2 r115.1 r115.2).bind fun r116 =>
                        bif r116 != 0 then
                          some false
                        else
                        (zint_Of.f N 1).bind fun r117 =>
                        (zint_Cmp.f N r113.2.1 r113.2.2.1 r117.1 r117.2).bind fun r118 =>
                        bif r118 != 0 then
                          some false
                        else
                        (zint_Of.f N 0).bind fun r119 =>
                        (zint_Cmp.f N r113.2.2.2.1 r113.2.2.2.2 r119.1 r119.2).bind fun r120 =>
                        bif r120 != 0 then
                          some false
                        else
                        (zint_Of.f N (-5)).bind fun r121 =>
                        (zint_Of.f N 0).bind fun r122 =>
                        (zint_Gcd.f N r121.1 r121.2 r122.1 r122.2).bind fun r123 =>
                        (zint_Make.f N false r123.1).bind fun r124 =>
                        (zint_Of.f N 5).bind fun r125 =>
                        (zint_Cmp.f N r124.1 r124.2 r125.1 r125.2).bind fun r126 =>
                        bif r126 != 0 then
                          some false
                        else
                        (zint_Of.f N (-1)).bind fun r127 =>
                        (zint_Cmp.f N r123.2.1 r123.2.2.1 r127.1 r127.2).bind fun r128 =>
                        bif r128 != 0 then
                          some false
                        else
                        (zint_Of.f N 0).bind fun r129 =>
                        (zint_Cmp.f N r123.2.2.2.1 r123.2.2.2.2 r129.1 r129.2).bind fun r130 =>
                        bif r130 != 0 then
                          some false
                        else
                        (zint_Of.f N 0).bind fun r131 =>
                        (zint_Of.f N (-7)).bind fun r132 =>
                        (zint_Gcd.f N r131.1 r131.2 r132.1 r132.2).bind fun r133 =>
                        (zint_Make.f N false r133.1).bind fun r134 =>
                        (zint_Of.f N 7).bind fun r135 =>
                        (zint_Cmp.f N r134.1 r134.2 r135.1 r135.2).bind fun r136 =>
                        bif r136 != 0 then
                          some false
                        else
                        (zint_Of.f N 0).bind fun r137 =>
                        (zint_Cmp.f N r133.2.1 r133.2.2.1 r137.1 r137.2).bind fun r138 =>
                        bif r138 != 0 then
                          some false
                        else
                        (zint_Of.f N (-1)).bind fun r139 =>
                        (zint_Cmp.f N r133.2.2.2.1 r133.2.2.2.2 r139.1 r139.2).bind fun r140 =>
                        bif r140 != 0 then
                          some false
                        else
                        (zint_Of.f N 0).bind fun r141 =>
                        (zint_Of.f N 0).bind fun r142 =>
                        (zint_Gcd.f N r141.1 r141.2 r142.1 r142.2).bind fun r143 =>
                        (zint_Make.f N false r143.1).bind fun r144 =>
                        (zint_Of.f N 0).bind fun r145 =>
                        (zint_Cmp.f N r144.1 r144.2 r145.1 r145.2).bind fun r146 =>
                        bif r146 != 0 then
                          some false
                        else
                        (zint_Of.f N 0).bind fun r147 =>
                        (zint_Cmp.f N r143.2.1 r143.2.2.1 r147.1 r147.2).bind fun r148 =>
                        bif r148 != 0 then
                          some false
                        else
                        (zint_Of.f N 0).bind fun r149 =>
                        (zint_Cmp.f N r143.2.2.2.1 r143.2.2.2.2 r149.1 r149.2).bind fun r150 =>
                        bif r150 != 0 then
                          some false
                        else
                        (zint_Of.f N (-9223372036854775808)).bind fun r151 =>
                        (zint_Neg.f N r151.1 r151.2).bind fun r152 =>
                        (zint_Int_Int64.f N r152.1 r152.2).bind fun r153 =>
                        (zint_Int_Int64.f N r151.1 r151.2).bind fun r154 =>
                        some false
                      else
                      (zint_Of.f N 12).bind fun r155 =>
                      (zint_Of.f N 18).bind fun r156 =>
                      (zint_Gcd.f N r155.1 r155.2 r156.1 r156.2).bind fun r157 =>
                      (zint_Make.f N false r157.1).bind fun r158 =>
                      (zint_Of.f N 6).bind fun r159 =>
                      (zint_Cmp.f N r158.1 r158.2 r159.1 r159.2).bind fun r160 =>
                      bif r160 != 0 then
                        some false
                      else
                      (zint_Of.f N 2).bind fun r161 =>
                      (zint_Cmp.f N r157.2.1 r157.2.2.1 r161.1 r161.2).bind fun r162 =>
                      bif r162 != 0 then
                        some false
                      else
                      (zint_Of.f N (-1)).bind fun r163 =>
                      (zint_Cmp.f N r157.2.2.2.1 r157.2.2.2.2 r163.1 r163.2).bind fun r164 =>
                      bif r164 != 0 then
                        some false
                      else
                      (zint_Of.f N (-12)).bind fun r165 =>
                      (zint_Of.f N 18).bind fun r166 =>
                      (zint_Gcd.f N r165.1 r165.2 r166.1 r166.2).bind fun r167 =>
                      (zint_Make.f N false r167.1).bind fun r168 =>
                      (zint_Of.f N 6).bind fun r169 =>
                      (zint_Cmp.f N r168.1 r168.2 r169.1 r169.2).bind fun r170 =>
                      bif r170 != 0 then
                        some false
                      else
                      (zint_Of.f N 1).bind fun r171 =>
                      (zint_Cmp.f N r167.2.1 r167.2.2.1 r171.1 r171.2).bind fun r172 =>
                      bif r172 != 0 then
                        some false
                      else
                      (zint_Of.f N 1).bind fun r173 =>
                      (zint_Cmp.f N r167.2.2.2.1 r167.2.2.2.2 r173.1 r173.2).bind fun r174 =>
                      bif r174 != 0 then
                        some false
                      else
                      (zint_Of.f N 5).bind fun r175 =>
                      (zint_Of.f N 0).bind fun r176 =>
                      (zint_Gcd.f N r175.1 r175.2 r176.1 r176.2).bind fun r177 =>
                      (zint_Make.f N false r177.1).bind fun r178 =>
                      (zint_Of.f N 5).bind fun r179 =>
                      (zint_Cmp.f N r178.1 r178.2 r179.1 r179.2).bind fun r180 =>
                      bif r180 != 0 then
                        some false
                      else
                      (zint_Of.f N 1).bind fun r181 =>
                      (zint_Cmp.f N r177.2.1 r177.2.2.1 r181.1 r181.2).bind fun r182 =>
                      bif r182 != 0 then
                        some false
                      else
                      (zint_Of.f N 0).bind fun r183 =>
                      (zint_Cmp.f N r177.2.2.2.1 r177.2.2.2.2 r183.1 r183.2).bind fun r184 =>
                      bif r184 != 0 then
                        some false
                      else
                      (zint_Of.f N (-5)).bind fun r185 =>
                      (zint_Of.f N 0).bind fun r186 =>
                      (zint_Gcd.f N r185.1 r185.2 r186.1 r186.2).bind fun r187 =>
                      (zint_Make.f N false r187.1).bind fun r188 =>
                      (zint_Of.f N 5).bind fun r189 =>
                      (zint_Cmp.f N r188.1 r188.2 r189.1 r189.2).bind fun r190 =>
                      bif r190 != 0 then
                        some false
                      else
                      (zint_Of.f N (-1)).bind fun r191 =>
                      (zint_Cmp.f N r187.2.1 r187.2.2.1 r191.1 r191.2).bind fun r192 =>
                      bif r192 != 0 then
                        some false
                      else
                      (zint_Of.f N 0).bind fun r193 =>
                      (zint_Cmp.f N r187.2.2.2.1 r187.2.2.2.2 r193.1 r193.2).bind fun r194 =>
                      bif r194 != 0 then
                        some false
                      else
                      (zint_Of.f N 0).bind fun r195 =>
                      (zint_Of.f N (-7)).bind fun r196 =>
                      (zint_Gcd.f N r195.1 r195.2 r196.1 r196.2).bind fun r197 =>
                      (zint_Make.f N false r197.1).bind fun r198 =>
                      (zint_Of.f N 7).bind fun r199 =>
                      (zint_Cmp.f N r198.1 r198.2 r199.1 r199.2).bind fun r200 =>
                      bif r200 != 0 then
                        some false
                      else
                      (zint_Of.f N 0).bind fun r201 =>
                      (zint_Cmp.f N r197.2.1 r197.2.2.1 r201.1 r201.2).bind fun r202 =>
                      bif r202 != 0 then
                        some false
                      else
                      (zint_Of.f N (-1)).bind fun r203 =>
                      (zint_Cmp.f N r197.2.2.2.1 r197.2.2.2.2 r203.1 r203.2).bind fun r204 =>
                      bif r204 != 0 then
                        some false
                      else
                      (zint_Of.f N 0).bind fun r205 =>
                      (zint_Of.f N 0).bind fun r206 =>
                      (zint_Gcd.f N r205.1 r205.2 r206.1 r206.2).bind fun r207 =>
                      (zint_Make.f N false r207.1).bind fun r208 =>
                      (zint_Of.f N 0).bind fun r209 =>
                      (zint_Cmp.f N r208.1 r208.2 r209.1 r209.2).bind fun r210 =>
                      bif r210 != 0 then
                        some false
                      else
                      (zint_Of.f N 0).bind fun r211 =>
                      (zint_Cmp.f N r207.2.1 r207.2.2.1 r211.1 r211.2).bind fun r212 =>
                      bif r212 != 0 then
                        some false
                      else
                      (zint_Of.f N 0).bind fun r213 =>
                      (zint_Cmp.f N r207.2.2.2.1 r207.2.2.2.2 r213.1 r213.2).bind fun r214 =>
                      bif r214 != 0 then
                        some false
                      else
                      (zint_Of.f N (-9223372036854775808)).bind fun r215 =>
                      (zint_Neg.f N r215.1 r215.2).bind fun r216 =>
                      (zint_Int_Int64.f N r216.1 r216.2).bind fun r217 =>
                      (zint_Int_Int64.f N r215.1 r215.2).bind fun r218 =>
                      some false
                    else
                    (zint_Of.f N 12).bind fun r219 =>
                    (zint_Of.f N 18).bind fun r220 =>
                    (zint_Gcd.f N r219.1 r219.2 r220.1 r220.2).bind fun r221 =>
                    (zint_Make.f N false r221.1).bind fun r222 =>
                    (zint_Of.f N 6).bind fun r223 =>
                    (zint_Cmp.f N r222.1 r222.2 r223.1 r223.2).bind fun r224 =>
                    bif r224 != 0 then
                      some false
                    else
                    (zint_Of.f N 2).bind fun r225 =>
                    (zint_Cmp.f N r221.2.1 r221.2.2.1 r225.1 r225.2).bind fun r226 =>
                    bif r226 != 0 then
                      some false
                    else
                    (zint_Of.f N (-1)).bind fun r227 =>
                    (zint_Cmp.f N r221.2.2.2.1 r221.2.2.2.2 r227.1 r227.2).bind fun r228 =>
                    bif r228 != 0 then
                      some false
                    else
                    (zint_Of.f N (-12)).bind fun r229 =>
                    (zint_Of.f N 18).bind fun r230 =>
                    (zint_Gcd.f N r229.1 r229.2 r230.1 r230.2).bind fun r231 =>
                    (zint_Make.f N false r231.1).bind fun r232 =>
                    (zint_Of.f N 6).bind fun r233 =>
                    (zint_Cmp.f N r232.1 r232.2 r233.1 r233.2).bind fun r234 =>
                    bif r234 != 0 then
                      some false
                    else
                    (zint_Of.f N 1).bind fun r235 =>
                    (zint_Cmp.f N r231.2.1 r231.2.2.1 r235.1 r235.2).bind fun r236 =>
                    bif r236 != 0 then
                      some false
                    else
                    (zint_Of.f N 1).bind fun r237 =>
                    (zint_Cmp.f N r231.2.2.2.1 r231.2.2.2.2 r237.1 r237.2).bind fun r238 =>
                    bif r238 != 0 then
                      some false
                    else
                    (zint_Of.f N 5).bind fun r239 =>
                    (zint_Of.f N 0).bind fun r240 =>
                    (zint_Gcd.f N r239.1 r239.2 r240.1 r240.2).bind fun r241 =>
                    (zint_Make.f N false r241.1).bind fun r242 =>
                    (zint_Of.f N 5).bind fun r243 =>
                    (zint_Cmp.f N r242.1 r242.2 r243.1 r243.2).bind fun r244 =>
                    bif r244 != 0 then
                      some false
                    else
                    (zint_Of.f N 1).bind fun r245 =>
                    (zint_Cmp.f N r241.2.1 r241.2.2.1 r245.1 r245.2).bind fun r246 =>
                    bif r246 != 0 then
                      some false
                    else
                    (zint_Of.f N 0).bind fun r247 =>
                    (zint_Cmp.f N r241.2.2.2.1 r241.2.2.2.2 r247.1 r247.2).bind fun r248 =>
                    bif r248 != 0 then
                      some false
                    else
                    (zint_Of.f N (-5)).bind fun r249 =>
                    (zint_Of.f N 0).bind fun r250 =>
                    (zint_Gcd.f N r249.1 r249.2 r250.1 r250.2).bind fun r251 =>
                    (zint_Make.f N false r251.1).bind fun r252 =>
                    (zint_Of.f N 5).bind fun r253 =>
                    (zint_Cmp.f N r252.1 r252.2 r253.1 r253.2).bind fun r254 =>
                    bif r254 != 0 then
                      some false
                    else
                    (zint_Of.f N (-1)).bind fun r255 =>
                    (zint_Cmp.f N r251.2.1 r251.2.2.1 r255.1 r255.2).bind fun r256 =>
                    bif r256 != 0 then
                      some false
                    else
                    (zint_Of.f N 0).bind fun r257 =>
                    (zint_Cmp.f N r251.2.2.2.1 r251.2.2.2.2 r257.1 r257.2).bind fun r258 =>
                    bif r258 != 0 then
                      some false
                    else
                    (zint_Of.f N 0).bind fun r259 =>
                    (zint_Of.f N (-7)).bind fun r260 =>
                    (zint_Gcd.f N r259.1 r259.2 r260.1 r260.2).bind fun r261 =>
                    (zint_Make.f N false r261.1).bind fun r262 =>
                    (zint_Of.f N 7).bind fun r263 =>
                    (zint_Cmp.f N r262.1 r262.2 r263.1 r263.2).bind fun r264 =>
                    bif r264 != 0 then
                      some false
                    else
                    (zint_Of.f N 0).bind fun r265 =>
                    (zint_Cmp.f N r261.2.1 r261.2.2.1 r265.1 r265.2).bind fun r266 =>
                    bif r266 != 0 then
                      some false
                    else
                    (zint_Of.f N (-1)).bind fun r267 =>
                    (zint_Cmp.f N r261.2.2.2.1 r261.2.2.2.2 r267.1 r267.2).bind fun r268 =>
                    bif r268 != 0 then
                      some false
                    else
                    (zint_Of.f N 0).bind fun r269 =>
                    (zint_Of.f N 0).bind fun r270 =>
                    (zint_Gcd.f N r269.1 r269.2 r270.1 r270.2).bind fun r271 =>
                    (zint_Make.f N false r271.1).bind fun r272 =>
                    (zint_Of.f N 0).bind fun r273 =>
                    (zint_Cmp.f N r272.1 r272.2 r273.1 r273.2).bind fun r274 =>
                    bif r274 != 0 then
                      some false
                    else
                    (zint_Of.f N 0).bind fun r275 =>
                    (zint_Cmp.f N r271.2.1 r271.2.2.1 r275.1 r275.2).bind fun r276 =>
                    bif r276 != 0 then
                      some false
                    else
                    (zint_Of.f N 0).bind fun r277 =>
                    (zint_Cmp.f N r271.2.2.2.1 r271.2.2.2.2 r277.1 r277.2).bind fun r278 =>
                    bif r278 != 0 then
                      some false
                    else
                    (zint_Of.f N (-9223372036854775808)).bind fun r279 =>
                    (zint_Neg.f N r279.1 r279.2).bind fun r280 =>
                    (zint_Int_Int64.f N r280.1 r280.2).bind fun r281 =>
                    (zint_Int_Int64.f N r279.1 r279.2).bind fun r282 =>
                    some false
                  else
                  (zint_Of.f N 12).bind fun r283 =>
                  (zint_Of.f N 18).bind fun r284 =>
                  (zint_Gcd.f N r283.1 r283.2 r284.1 r284.2).bind fun r285 =>
                  (zint_Make.f N false r285.1).bind fun r286 =>
                  (zint_Of.f N 6).bind fun r287 =>
                  (zint_Cmp.f N r286.1 r286.2 r287.1 r287.2).bind fun r288 =>
                  bif r288 != 0 then
                    some false
                  else
                  (zint_Of.f N 2).bind fun r289 =>
                  (zint_Cmp.f N r285.2.1 r285.2.2.1 r289.1 r289.2).bind fun r290 =>
                  bif r290 != 0 then
                    some false
                  else
                  (zint_Of.f N (-1)).bind fun r291 =>
                  (zint_Cmp.f N r285.2.2.2.1 r285.2.2.2.2 r291.1 r291.2).bind fun r292 =>
                  bif r292 != 0 then
                    some false
                  else
                  (zint_Of.f N (-12)).bind fun r293 =>
                  (zint_Of.f N 18).bind fun r294 =>
                  (zint_Gcd.f N r293.1 r293.2 r294.1 r294.2).bind fun r295 =>
                  (zint_Make.f N false r295.1).bind fun r296 =>
                  (zint_Of.f N 6).bind fun r297 =>
                  (zint_Cmp.f N r296.1 r296.2 r297.1 r297.2).bind fun r298 =>
                  bif r298 != 0 then
                    some false
                  else
                  (zint_Of.f N 1).bind fun r299 =>
                  (zint_Cmp.f N r295.2.1 r295.2.2.1 r299.1 r299.2).bind fun r300 =>
                  bif r300 != 0 then
                    some false
                  else
                  (zint_Of.f N 1).bind fun r301 =>
                  (zint_Cmp.f N r295.2.2.2.1 r295.2.2.2.2 r301.1 r301.2).bind fun r302 =>
                  bif r302 != 0 then
                    some false
                  else
                  (zint_Of.f N 5).bind fun r303 =>
                  (zint_Of.f N 0).bind fun r304 =>
                  (zint_Gcd.f N r303.1 r303.2 r304.1 r304.2).bind fun r305 =>
                  (zint_Make.f N false r305.1).bind fun r306 =>
                  (zint_Of.f N 5).bind fun r307 =>
                  (zint_Cmp.f N r306.1 r306.2 r307.1 r307.2).bind fun r308 =>
                  bif r308 != 0 then
                    some false
                  else
                  (zint_Of.f N 1).bind fun r309 =>
                  (zint_Cmp.f N r305.2.1 r305.2.2.1 r309.1 r309.2).bind fun r310 =>
                  bif r310 != 0 then
                    some false
                  else
                  (zint_Of.f N 0).bind fun r311 =>
                  (zint_Cmp.f N r305.2.2.2.1 r305.2.2.2.2 r311.1 r311.2).bind fun r312 =>
                  bif r312 != 0 then
                    some false
                  else
                  (zint_Of.f N (-5)).bind fun r313 =>
                  (zint_Of.f N 0).bind fun r314 =>
                  (zint_Gcd.f N r313.1 r313.2 r314.1 r314.2).bind fun r315 =>
                  (zint_Make.f N false r315.1).bind fun r316 =>
                  (zint_Of.f N 5).bind fun r317 =>
                  (zint_Cmp.f N r316.1 r316.2 r317.1 r317.2).bind fun r318 =>
                  bif r318 != 0 then
                    some false
                  else
                  (zint_Of.f N (-1)).bind fun r319 =>
                  (zint_Cmp.f N r315.2.1 r315.2.2.1 r319.1 r319.2).bind fun r320 =>
                  bif r320 != 0 then
                    some false
                  else
                  (zint_Of.f N 0).bind fun r321 =>
                  (zint_Cmp.f N r315.2.2.2.1 r315.2.2.2.2 r321.1 r321.2).bind fun r322 =>
                  bif r322 != 0 then
                    some false
                  else
                  (zint_Of.f N 0).bind fun r323 =>
                  (zint_Of.f N (-7)).bind fun r324 =>
                  (zint_Gcd.f N r323.1 r323.2 r324.1 r324.2).bind fun r325 =>
                  (zint_Make.f N false r325.1).bind fun r326 =>
                  (zint_Of.f N 7).bind fun r327 =>
                  (zint_Cmp.f N r326.1 r326.2 r327.1 r327.2).bind fun r328 =>
                  bif r328 != 0 then
                    some false
                  else
                  (zint_Of.f N 0).bind fun r329 =>
                  (zint_Cmp.f N r325.2.1 r325.2.2.1 r329.1 r329.2).bind fun r330 =>
                  bif r330 != 0 then
                    some false
                  else
                  (zint_Of.f N (-1)).bind fun r331 =>
                  (zint_Cmp.f N r325.2.2.2.1 r325.2.2.2.2 r331.1 r331.2).bind fun r332 =>
                  bif r332 != 0 then
                    some false
                  else
                  (zint_Of.f N 0).bind fun r333 =>
                  (zint_Of.f N 0).bind fun r334 =>
                  (zint_Gcd.f N r333.1 r333.2 r334.1 r334.2).bind fun r335 =>
                  (zint_Make.f N false r335.1).bind fun r336 =>
                  (zint_Of.f N 0).bind fun r337 =>
                  (zint_Cmp.f N r336.1 r336.2 r337.1 r337.2).bind fun r338 =>
                  bif r338 != 0 then
                    some false
                  else
                  (zint_Of.f N 0).bind fun r339 =>
                  (zint_Cmp.f N r335.2.1 r335.2.2.1 r339.1 r339.2).bind fun r340 =>
                  bif r340 != 0 then
                    some false
                  else
                  (zint_Of.f N 0).bind fun r341 =>
                  (zint_Cmp.f N r335.2.2.2.1 r335.2.2.2.2 r341.1 r341.2).bind fun r342 =>
                  bif r342 != 0 then
                    some false
                  else
                  (zint_Of.f N (-9223372036854775808)).bind fun r343 =>
                  (zint_Neg.f N r343.1 r343.2).bind fun r344 =>
                  (zint_Int_Int64.f N r344.1 r344.2).bind fun r345 =>
                  (zint_Int_Int64.f N r343.1 r343.2).bind fun r346 =>
                  some false
                else
                (zint_Of.f N 12).bind fun r347 =>
                (zint_Of.f N 18).bind fun r348 =>
                (zint_Gcd.f N r347.1 r347.2 r348.1 r348.2).bind fun r349 =>
                (zint_Make.f N false r349.1).bind fun r350 =>
                (zint_Of.f N 6).bind fun r351 =>
                (zint_Cmp.f N r350.1 r350.2 r351.1 r351.2).bind fun r352 =>
                bif r352 != 0 then
                  some false
                else
                (zint_Of.f N 2).bind fun r353 =>
                (zint_Cmp.f N r349.2.1 r349.2.2.1 r353.1 r353.2).bind fun r354 =>
                bif r354 != 0 then
                  some false
                else
                (zint_Of.f N (-1)).bind fun r355 =>
                (zint_Cmp.f N r349.2.2.2.1 r349.2.2.2.2 r355.1 r355.2).bind fun r356 =>
                bif r356 != 0 then
                  some false
                else
                (zint_Of.f N (-12)).bind fun r357 =>
                (zint_Of.f N 18).bind fun r358 =>
                (zint_Gcd.f N r357.1 r357.2 r358.1 r358.2).bind fun r359 =>
                (zint_Make.f N false r359.1).bind fun r360 =>
                (zint_Of.f N 6).bind fun r361 =>
                (zint_Cmp.f N r360.1 r360.2 r361.1 r361.2).bind fun r362 =>
                bif r362 != 0 then
                  some false
                else
                (zint_Of.f N 1).bind fun r363 =>
                (zint_Cmp.f N r359.2.1 r359.2.2.1 r363.1 r363.2).bind fun r364 =>
                bif r364 != 0 then
                  some false
                else
                (zint_Of.f N 1).bind fun r365 =>
                (zint_Cmp.f N r359.2.2.2.1 r359.2.2.2.2 r365.1 r365.2).bind fun r366 =>
                bif r366 != 0 then
                  some false
                else
                (zint_Of.f N 5).bind fun r367 =>
                (zint_Of.f N 0).bind fun r368 =>
                (zint_Gcd.f N r367.1 r367.2 r368.1 r368.2).bind fun r369 =>
                (zint_Make.f N false r369.1).bind fun r370 =>
                (zint_Of.f N 5).bind fun r371 =>
                (zint_Cmp.f N r370.1 r370.2 r371.1 r371.2).bind fun r372 =>
                bif r372 != 0 then
                  some false
                else
                (zint_Of.f N 1).bind fun r373 =>
                (zint_Cmp.f N r369.2.1 r369.2.2.1 r373.1 r373.2).bind fun r374 =>
                bif r374 != 0 then
                  some false
                else
                (zint_Of.f N 0).bind fun r375 =>
                (zint_Cmp.f N r369.2.2.2.1 r369.2.2.2.2 r375.1 r375.2).bind fun r376 =>
                bif r376 != 0 then
                  some false
                else
                (zint_Of.f N (-5)).bind fun r377 =>
                (zint_Of.f N 0).bind fun r378 =>
                (zint_Gcd.f N r377.1 r377.2 r378.1 r378.2).bind fun r379 =>
                (zint_Make.f N false r379.1).bind fun r380 =>
                (zint_Of.f N 5).bind fun r381 =>
                (zint_Cmp.f N r380.1 r380.2 r381.1 r381.2).bind fun r382 =>
                bif r382 != 0 then
                  some false
                else
                (zint_Of.f N (-1)).bind fun r383 =>
                (zint_Cmp.f N r379.2.1 r379.2.2.1 r383.1 r383.2).bind fun r384 =>
                bif r384 != 0 then
                  some false
                else
                (zint_Of.f N 0).bind fun r385 =>
                (zint_Cmp.f N r379.2.2.2.1 r379.2.2.2.2 r385.1 r385.2).bind fun r386 =>
                bif r386 != 0 then
                  some false
                else
                (zint_Of.f N 0).bind fun r387 =>
                (zint_Of.f N (-7)).bind fun r388 =>
                (zint_Gcd.f N r387.1 r387.2 r388.1 r388.2).bind fun r389 =>
                (zint_Make.f N false r389.1).bind fun r390 =>
                (zint_Of.f N 7).bind fun r391 =>
                (zint_Cmp.f N r390.1 r390.2 r391.1 r391.2).bind fun r392 =>
                bif r392 != 0 then
                  some false
                else
                (zint_Of.f N 0).bind fun r393 =>
                (zint_Cmp.f N r389.2.1 r389.2.2.1 r393.1 r393.2).bind fun r394 =>
                bif r394 != 0 then
                  some false
                else
                (zint_Of.f N (-1)).bind fun r395 =>
                (zint_Cmp.f N r389.2.2.2.1 r389.2.2.2.2 r395.1 r395.2).bind fun r396 =>
                bif r396 != 0 then
                  some false
                else
                (zint_Of.f N 0).bind fun r397 =>
                (zint_Of.f N 0).bind fun r398 =>
                (zint_Gcd.f N r397.1 r397.2 r398.1 r398.2).bind fun r399 =>
                (zint_Make.f N false r399.1).bind fun r400 =>
                (zint_Of.f N 0).bind fun r401 =>
                (zint_Cmp.f N r400.1 r400.2 r401.1 r401.2).bind fun r402 =>
                bif r402 != 0 then
                  some false
                else
                (zint_Of.f N 0).bind fun r403 =>
                (zint_Cmp.f N r399.2.1 r399.2.2.1 r403.1 r403.2).bind fun r404 =>
                bif r404 != 0 then
                  some false
                else
                (zint_Of.f N 0).bind fun r405 =>
                (zint_Cmp.f N r399.2.2.2.1 r399.2.2.2.2 r405.1 r405.2).bind fun r406 =>
                bif r406 != 0 then
                  some false
                else
                (zint_Of.f N (-9223372036854775808)).bind fun r407 =>
                (zint_Neg.f N r407.1 r407.2).bind fun r408 =>
                (zint_Int_Int64.f N r408.1 r408.2).bind fun r409 =>
                (zint_Int_Int64.f N r407.1 r407.2).bind fun r410 =>
                some false
              else
              (zint_Of.f N 12).bind fun r411 =>
              (zint_Of.f N 18).bind fun r412 =>
              (zint_Gcd.f N r411.1 r411.2 r412.1 r412.2).bind fun r413 =>
              (zint_Make.f N false r413.1).bind fun r414 =>
              (zint_Of.f N 6).bind fun r415 =>
              (zint_Cmp.f N r414.1 r414.2 r415.1 r415.2).bind fun r416 =>
              bif r416 != 0 then
                some false
              else
              (zint_Of.f N 2).bind fun r417 =>
              (zint_Cmp.f N r413.2.1 r413.2.2.1 r417.1 r417.2).bind fun r418 =>
              bif r418 != 0 then
                some false
              else
              (zint_Of.f N (-1)).bind fun r419 =>
              (zint_Cmp.f N r413.2.2.2.1 r413.2.2.2.2 r419.1 r419.2).bind fun r420 =>
              bif r420 != 0 then
                some false
              else
              (zint_Of.f N (-12)).bind fun r421 =>
              (zint_Of.f N 18).bind fun r422 =>
              (zint_Gcd.f N r421.1 r421.2 r422.1 r422.2).bind fun r423 =>
              (zint_Make.f N false r423.1).bind fun r424 =>
              (zint_Of.f N 6).bind fun r425 =>
              (zint_Cmp.f N r424.1 r424.2 r425.1 r425.2).bind fun r426 =>
              bif r426 != 0 then
                some false
              else
              (zint_Of.f N 1).bind fun r427 =>
              (zint_Cmp.f N r423.2.1 r423.2.2.1 r427.1 r427.2).bind fun r428 =>
              bif r428 != 0 then
                some false
              else
              (zint_Of.f N 1).bind fun r429 =>
              (zint_Cmp.f N r423.2.2.2.1 r423.2.2.2.2 r429.1 r429.2).bind fun r430 =>
              bif r430 != 0 then
                some false
              else
              (zint_Of.f N 5).bind fun r431 =>
              (zint_Of.f N 0).bind fun r432 =>
              (zint_Gcd.f N r431.1 r431.2 r432.1 r432.2).bind fun r433 =>
              (zint_Make.f N false r433.1).bind fun r434 =>
              (zint_Of.f N 5).bind fun r435 =>
              (zint_Cmp.f N r434.1 r434.2 r435.1 r435.2).bind fun r436 =>
              bif r436 != 0 then
                some false
              else
              (zint_Of.f N 1).bind fun r437 =>
              (zint_Cmp.f N r433.2.1 r433.2.2.1 r437.1 r437.2).bind fun r438 =>
              bif r438 != 0 then
                some false
              else
              (zint_Of.f N 0).bind fun r439 =>
              (zint_Cmp.f N r433.2.2.2.1 r433.2.2.2.2 r439.1 r439.2).bind fun r440 =>
              bif r440 != 0 then
                some false
              else
              (zint_Of.f N (-5)).bind fun r441 =>
              (zint_Of.f N 0).bind fun r442 =>
              (zint_Gcd.f N r441.1 r441.2 r442.1 r442.2).bind fun r443 =>
              (zint_Make.f N false r443.1).bind fun r444 =>
              (zint_Of.f N 5).bind fun r445 =>
              (zint_Cmp.f N r444.1 r444.2 r445.1 r445.2).bind fun r446 =>
              bif r446 != 0 then
                some false
              else
              (zint_Of.f N (-1)).bind fun r447 =>
              (zint_Cmp.f N r443.2.1 r443.2.2.1 r447.1 r447.2).bind fun r448 =>
              bif r448 != 0 then
                some false
              else
              (zint_Of.f N 0).bind fun r449 =>
              (zint_Cmp.f N r443.2.2.2.1 r443.2.2.2.2 r449.1 r449.2).bind fun r450 =>
              bif r450 != 0 then
                some false
              else
              (zint_Of.f N 0).bind fun r451 =>
              (zint_Of.f N (-7)).bind fun r452 =>
              (zint_Gcd.f N r451.1 r451.2 r452.1 r452.2).bind fun r453 =>
              (zint_Make.f N false r453.1).bind fun r454 =>
              (zint_Of.f N 7).bind fun r455 =>
              (zint_Cmp.f N r454.1 r454.2 r455.1 r455.2).bind fun r456 =>
              bif r456 != 0 then
                some false
              else
              (zint_Of.f N 0).bind fun r457 =>
              (zint_Cmp.f N r453.2.1 r453.2.2.1 r457.1 r457.2).bind fun r458 =>
              bif r458 != 0 then
                some false
              else
              (zint_Of.f N (-1)).bind fun r459 =>
              (zint_Cmp.f N r453.2.2.2.1 r453.2.2.2.2 r459.1 r459.2).bind fun r460 =>
              bif r460 != 0 then
                some false
              else
              (zint_Of.f N 0).bind fun r461 =>
              (zint_Of.f N 0).bind fun r462 =>
              (zint_Gcd.f N r461.1 r461.2 r462.1 r462.2).bind fun r463 =>
              (zint_Make.f N false r463.1).bind fun r464 =>
              (zint_Of.f N 0).bind fun r465 =>
              (zint_Cmp.f N r464.1 r464.2 r465.1 r465.2).bind fun r466 =>
              bif r466 != 0 then
                some false
              else
              (zint_Of.f N 0).bind fun r467 =>
              (zint_Cmp.f N r463.2.1 r463.2.2.1 r467.1 r467.2).bind fun r468 =>
              bif r468 != 0 then
                some false
              else
              (zint_Of.f N 0).bind fun r469 =>
              (zint_Cmp.f N r463.2.2.2.1 r463.2.2.2.2 r469.1 r469.2).bind fun r470 =>
              bif r470 != 0 then
                some false
              else
              (zint_Of.f N (-9223372036854775808)).bind fun r471 =>
              (zint_Neg.f N r471.1 r471.2).bind fun r472 =>
              (zint_Int_Int64.f N r472.1 r472.2).bind fun r473 =>
              (zint_Int_Int64.f N r471.1 r471.2).bind fun r474 =>
              some false
            else
            (zint_Of.f N 12).bind fun r475 =>
            (zint_Of.f N 18).bind fun r476 =>
            (zint_Gcd.f N r475.1 r475.2 r476.1 r476.2).bind fun r477 =>
            (zint_Make.f N false r477.1).bind fun r478 =>
            (zint_Of.f N 6).bind fun r479 =>
            (zint_Cmp.f N r478.1 r478.2 r479.1 r479.2).bind fun r480 =>
            bif r480 != 0 then
              some false
            else
            (zint_Of.f N 2).bind fun r481 =>
            (zint_Cmp.f N r477.2.1 r477.2.2.1 r481.1 r481.2).bind fun r482 =>
            bif r482 != 0 then
              some false
            else
            (zint_Of.f N (-1)).bind fun r483 =>
            (zint_Cmp.f N r477.2.2.2.1 r477.2.2.2.2 r483.1 r483.2).bind fun r484 =>
            bif r484 != 0 then
              some false
            else
            (zint_Of.f N (-12)).bind fun r485 =>
            (zint_Of.f N 18).bind fun r486 =>
            (zint_Gcd.f N r485.1 r485.2 r486.1 r486.2).bind fun r487 =>
            (zint_Make.f N false r487.1).bind fun r488 =>
            (zint_Of.f N 6).bind fun r489 =>
            (zint_Cmp.f N r488.1 r488.2 r489.1 r489.2).bind fun r490 =>
            bif r490 != 0 then
              some false
            else
            (zint_Of.f N 1).bind fun r491 =>
            (zint_Cmp.f N r487.2.1 r487.2.2.1 r491.1 r491.2).bind fun r492 =>
            bif r492 != 0 then
              some false
            else
            (zint_Of.f N 1).bind fun r493 =>
            (zint_Cmp.f N r487.2.2.2.1 r487.2.2.2.2 r493.1 r493.2).bind fun r494 =>
            bif r494 != 0 then
              some false
            else
            (zint_Of.f N 5).bind fun r495 =>
            (zint_Of.f N 0).bind fun r496 =>
            (zint_Gcd.f N r495.1 r495.2 r496.1 r496.2).bind fun r497 =>
            (zint_Make.f N false r497.1).bind fun r498 =>
            (zint_Of.f N 5).bind fun r499 =>
            (zint_Cmp.f N r498.1 r498.2 r499.1 r499.2).bind fun r500 =>
            bif r500 != 0 then
              some false
            else
            (zint_Of.f N 1).bind fun r501 =>
            (zint_Cmp.f N r497.2.1 r497.2.2.1 r501.1 r501.2).bind fun r502 =>
            bif r502 != 0 then
              some false
            else
            (zint_Of.f N 0).bind fun r503 =>
            (zint_Cmp.f N r497.2.2.2.1 r497.2.2.2.2 r503.1 r503.2).bind fun r504 =>
            bif r504 != 0 then
              some false
            else
            (zint_Of.f N (-5)).bind fun r505 =>
            (zint_Of.f N 0).bind fun r506 =>
            (zint_Gcd.f N r505.1 r505.2 r506.1 r506.2).bind fun r507 =>
            (zint_Make.f N false r507.1).bind fun r508 =>
            (zint_Of.f N 5).bind fun r509 =>
            (zint_Cmp.f N r508.1 r508.2 r509.1 r509.2).bind fun r510 =>
            bif r510 != 0 then
              some false
            else
            (zint_Of.f N (-1)).bind fun r511 =>
            (zint_Cmp.f N r507.2.1 r507.2.2.1 r511.1 r511.2).bind fun r512 =>
            bif r512 != 0 then
              some false
            else
            (zint_Of.f N 0).bind fun r513 =>
            (zint_Cmp.f N r507.2.2.2.1 r507.2.2.2.2 r513.1 r513.2).bind fun r514 =>
            bif r514 != 0 then
              some false
            else
            (zint_Of.f N 0).bind fun r515 =>
            (zint_Of.f N (-7)).bind fun r516 =>
            (zint_Gcd.f N r515.1 r515.2 r516.1 r516.2).bind fun r517 =>
            (zint_Make.f N false r517.1).bind fun r518 =>
            (zint_Of.f N 7).bind fun r519 =>
            (zint_Cmp.f N r518.1 r518.2 r519.1 r519.2).bind fun r520 =>
            bif r520 != 0 then
              some false
            else
            (zint_Of.f N 0).bind fun r521 =>
            (zint_Cmp.f N r517.2.1 r517.2.2.1 r521.1 r521.2).bind fun r522 =>
            bif r522 != 0 then
              some false
            else
            (zint_Of.f N (-1)).bind fun r523 =>
            (zint_Cmp.f N r517.2.2.2.1 r517.2.2.2.2 r523.1 r523.2).bind fun r524 =>
            bif r524 != 0 then
              some false
            else
            (zint_Of.f N 0).bind fun r525 =>
            (zint_Of.f N 0).bind fun r526 =>
            (zint_Gcd.f N r525.1 r525.2 r526.1 r526.2).bind fun r527 =>
            (zint_Make.f N false r527.1).bind fun r528 =>
            (zint_Of.f N 0).bind fun r529 =>
            (zint_Cmp.f N r528.1 r528.2 r529.1 r529.2).bind fun r530 =>
            bif r530 != 0 then
              some false
            else
            (zint_Of.f N 0).bind fun r531 =>
            (zint_Cmp.f N r527.2.1 r527.2.2.1 r531.1 r531.2).bind fun r532 =>
            bif r532 != 0 then
              some false
            else
            (zint_Of.f N 0).bind fun r533 =>
            (zint_Cmp.f N r527.2.2.2.1 r527.2.2.2.2 r533.1 r533.2).bind fun r534 =>
            bif r534 != 0 then
              some false
            else
            (zint_Of.f N (-9223372036854775808)).bind fun r535 =>
            (zint_Neg.f N r535.1 r535.2).bind fun r536 =>
            (zint_Int_Int64.f N r536.1 r536.2).bind fun r537 =>
            (zint_Int_Int64.f N r535.1 r535.2).bind fun r538 =>
            some false
          else
          (zint_Of.f N 12).bind fun r539 =>
          (zint_Of.f N 18).bind fun r540 =>
          (zint_Gcd.f N r539.1 r539.2 r540.1 r540.2).bind fun r541 =>
          (zint_Make.f N false r541.1).bind fun r542 =>
          (zint_Of.f N 6).bind fun r543 =>
          (zint_Cmp.f N r542.1 r542.2 r543.1 r543.2).bind fun r544 =>
          bif r544 != 0 then
            some false
          else
          (zint_Of.f N 2).bind fun r545 =>
          (zint_Cmp.f N r541.2.1 r541.2.2.1 r545.1 r545.2).bind fun r546 =>
          bif r546 != 0 then
            some false
          else
          (zint_Of.f N (-1)).bind fun r547 =>
          (zint_Cmp.f N r541.2.2.2.1 r541.2.2.2.2 r547.1 r547.2).bind fun r548 =>
          bif r548 != 0 then
            some false
          else
          (zint_Of.f N (-12)).bind fun r549 =>
          (zint_Of.f N 18).bind fun r550 =>
          (zint_Gcd.f N r549.1 r549.2 r550.1 r550.2).bind fun r551 =>
          (zint_Make.f N false r551.1).bind fun r552 =>
          (zint_Of.f N 6).bind fun r553 =>
          (zint_Cmp.f N r552.1 r552.2 r553.1 r553.2).bind fun r554 =>
          bif r554 != 0 then
            some false
          else
          (zint_Of.f N 1).bind fun r555 =>
          (zint_Cmp.f N r551.2.1 r551.2.2.1 r555.1 r555.2).bind fun r556 =>
          bif r556 != 0 then
            some false
          else
          (zint_Of.f N 1).bind fun r557 =>
          (zint_Cmp.f N r551.2.2.2.1 r551.2.2.2.2 r557.1 r557.2).bind fun r558 =>
          bif r558 != 0 then
            some false
          else
          (zint_Of.f N 5).bind fun r559 =>
          (zint_Of.f N 0).bind fun r560 =>
          (zint_Gcd.f N r559.1 r559.2 r560.1 r560.2).bind fun r561 =>
          (zint_Make.f N false r561.1).bind fun r562 =>
          (zint_Of.f N 5).bind fun r563 =>
          (zint_Cmp.f N r562.1 r562.2 r563.1 r563.2).bind fun r564 =>
          bif r564 != 0 then
            some false
          else
          (zint_Of.f N 1).bind fun r565 =>
          (zint_Cmp.f N r561.2.1 r561.2.2.1 r565.1 r565.2).bind fun r566 =>
          bif r566 != 0 then
            some false
          else
          (zint_Of.f N 0).bind fun r567 =>
          (zint_Cmp.f N r561.2.2.2.1 r561.2.2.2.2 r567.1 r567.2).bind fun r568 =>
          bif r568 != 0 then
            some false
          else
          (zint_Of.f N (-5)).bind fun r569 =>
          (zint_Of.f N 0).bind fun r570 =>
          (zint_Gcd.f N r569.1 r569.2 r570.1 r570.2).bind fun r571 =>
          (zint_Make.f N false r571.1).bind fun r572 =>
          (zint_Of.f N 5).bind fun r573 =>
          (zint_Cmp.f N r572.1 r572.2 r573.1 r573.2).bind fun r574 =>
          bif r574 != 0 then
            some false
          else
          (zint_Of.f N (-1)).bind fun r575 =>
          (zint_Cmp.f N r571.2.1 r571.2.2.1 r575.1 r575.2).bind fun r576 =>
          bif r576 != 0 then
            some false
          else
          (zint_Of.f N 0).bind fun r577 =>
          (zint_Cmp.f N r571.2.2.2.1 r571.2.2.2.2 r577.1 r577.2).bind fun r578 =>
          bif r578 != 0 then
            some false
          else
          (zint_Of.f N 0).bind fun r579 =>
          (zint_Of.f N (-7)).bind fun r580 =>
          (zint_Gcd.f N r579.1 r579.2 r580.1 r580.2).bind fun r581 =>
          (zint_Make.f N false r581.1).bind fun r582 =>
          (zint_Of.f N 7).bind fun r583 =>
          (zint_Cmp.f N r582.1 r582.2 r583.1 r583.2).bind fun r584 =>
          bif r584 != 0 then
            some false
          else
          (zint_Of.f N 0).bind fun r585 =>
          (zint_Cmp.f N r581.2.1 r581.2.2.1 r585.1 r585.2).bind fun r586 =>
          bif r586 != 0 then
            some false
          else
          (zint_Of.f N (-1)).bind fun r587 =>
          (zint_Cmp.f N r581.2.2.2.1 r581.2.2.2.2 r587.1 r587.2).bind fun r588 =>
          bif r588 != 0 then
            some false
          else
          (zint_Of.f N 0).bind fun r589 =>
          (zint_Of.f N 0).bind fun r590 =>
          (zint_Gcd.f N r589.1 r589.2 r590.1 r590.2).bind fun r591 =>
          (zint_Make.f N false r591.1).bind fun r592 =>
          (zint_Of.f N 0).bind fun r593 =>
          (zint_Cmp.f N r592.1 r592.2 r593.1 r593.2).bind fun r594 =>
          bif r594 != 0 then
            some false
          else
          (zint_Of.f N 0).bind fun r595 =>
          (zint_Cmp.f N r591.2.1 r591.2.2.1 r595.1 r595.2).bind fun r596 =>
          bif r596 != 0 then
            some false
          else
          (zint_Of.f N 0).bind fun r597 =>
          (zint_Cmp.f N r591.2.2.2.1 r591.2.2.2.2 r597.1 r597.2).bind fun r598 =>
          bif r598 != 0 then
            some false
          else
          (zint_Of.f N (-9223372036854775808)).bind fun r599 =>
          (zint_Neg.f N r599.1 r599.2).bind fun r600 =>
          (zint_Int_Int64.f N r600.1 r600.2).bind fun r601 =>
          (zint_Int_Int64.f N r599.1 r599.2).bind fun r602 =>
          some false
        else
        (zint_Of.f N 12).bind fun r603 =>
        (zint_Of.f N 18).bind fun r604 =>
        (zint_Gcd.f N r603.1 r603.2 r604.1 r604.2).bind fun r605 =>
        (zint_Make.f N false r605.1).bind fun r606 =>
        (zint_Of.f N 6).bind fun r607 =>
        (zint_Cmp.f N r606.1 r606.2 r607.1 r607.2).bind fun r608 =>
        bif r608 != 0 then
          some false
        else
        (zint_Of.f N 2).bind fun r609 =>
        (zint_Cmp.f N r605.2.1 r605.2.2.1 r609.1 r609.2).bind fun r610 =>
        bif r610 != 0 then
          some false
        else
        (zint_Of.f N (-1)).bind fun r611 =>
        (zint_Cmp.f N r605.2.2.2.1 r605.2.2.2.2 r611.1 r611.2).bind fun r612 =>
        bif r612 != 0 then
          some false
        else
        (zint_Of.f N (-12)).bind fun r613 =>
        (zint_Of.f N 18).bind fun r614 =>
        (zint_Gcd.f N r613.1 r613.2 r614.1 r614.2).bind fun r615 =>
        (zint_Make.f N false r615.1).bind fun r616 =>
        (zint_Of.f N 6).bind fun r617 =>
        (zint_Cmp.f N r616.1 r616.2 r617.1 r617.2).bind fun r618 =>
        bif r618 != 0 then
          some false
        else
        (zint_Of.f N 1).bind fun r619 =>
        (zint_Cmp.f N r615.2.1 r615.2.2.1 r619.1 r619.2).bind fun r620 =>
        bif r620 != 0 then
          some false
        else
        (zint_Of.f N 1).bind fun r621 =>
        (zint_Cmp.f N r615.2.2.2.1 r615.2.2.2.2 r621.1 r621.2).bind fun r622 =>
        bif r622 != 0 then
          some false
        else
        (zint_Of.f N 5).bind fun r623 =>
        (zint_Of.f N 0).bind fun r624 =>
        (zint_Gcd.f N r623.1 r623.2 r624.1 r624.2).bind fun r625 =>
        (zint_Make.f N false r625.1).bind fun r626 =>
        (zint_Of.f N 5).bind fun r627 =>
        (zint_Cmp.f N r626.1 r626.2 r627.1 r627.2).bind fun r628 =>
        bif r628 != 0 then
          some false
        else
        (zint_Of.f N 1).bind fun r629 =>
        (zint_Cmp.f N r625.2.1 r625.2.2.1 r629.1 r629.2).bind fun r630 =>
        bif r630 != 0 then
          some false
        else
        (zint_Of.f N 0).bind fun r631 =>
        (zint_Cmp.f N r625.2.2.2.1 r625.2.2.2.2 r631.1 r631.2).bind fun r632 =>
        bif r632 != 0 then
          some false
        else
        (zint_Of.f N (-5)).bind fun r633 =>
        (zint_Of.f N 0).bind fun r634 =>
        (zint_Gcd.f N r633.1 r633.2 r634.1 r634.2).bind fun r635 =>
        (zint_Make.f N false r635.1).bind fun r636 =>
        (zint_Of.f N 5).bind fun r637 =>
        (zint_Cmp.f N r636.1 r636.2 r637.1 r637.2).bind fun r638 =>
        bif r638 != 0 then
          some false
        else
        (zint_Of.f N (-1)).bind fun r639 =>
        (zint_Cmp.f N r635.2.1 r635.2.2.1 r639.1 r639.2).bind fun r640 =>
        bif r640 != 0 then
          some false
        else
        (zint_Of.f N 0).bind fun r641 =>
        (zint_Cmp.f N r635.2.2.2.1 r635.2.2.2.2 r641.1 r641.2).bind fun r642 =>
        bif r642 != 0 then
          some false
        else
        (zint_Of.f N 0).bind fun r643 =>
        (zint_Of.f N (-7)).bind fun r644 =>
        (zint_Gcd.f N r643.1 r643.2 r644.1 r644.2).bind fun r645 =>
        (zint_Make.f N false r645.1).bind fun r646 =>
        (zint_Of.f N 7).bind fun r647 =>
        (zint_Cmp.f N r646.1 r646.2 r647.1 r647.2).bind fun r648 =>
        bif r648 != 0 then
          some false
        else
        (zint_Of.f N 0).bind fun r649 =>
        (zint_Cmp.f N r645.2.1 r645.2.2.1 r649.1 r649.2).bind fun r650 =>
        bif r650 != 0 then
          some false
        else
        (zint_Of.f N (-1)).bind fun r651 =>
        (zint_Cmp.f N r645.2.2.2.1 r645.2.2.2.2 r651.1 r651.2).bind fun r652 =>
        bif r652 != 0 then
          some false
        else
        (zint_Of.f N 0).bind fun r653 =>
        (zint_Of.f N 0).bind fun r654 =>
        (zint_Gcd.f N r653.1 r653.2 r654.1 r654.2).bind fun r655 =>
        (zint_Make.f N false r655.1).bind fun r656 =>
        (zint_Of.f N 0).bind fun r657 =>
        (zint_Cmp.f N r656.1 r656.2 r657.1 r657.2).bind fun r658 =>
        bif r658 != 0 then
          some false
        else
        (zint_Of.f N 0).bind fun r659 =>
        (zint_Cmp.f N r655.2.1 r655.2.2.1 r659.1 r659.2).bind fun r660 =>
        bif r660 != 0 then
          some false
        else
        (zint_Of.f N 0).bind fun r661 =>
        (zint_Cmp.f N r655.2.2.2.1 r655.2.2.2.2 r661.1 r661.2).bind fun r662 =>
        bif r662 != 0 then
          some false
        else
        (zint_Of.f N (-9223372036854775808)).bind fun r663 =>
        (zint_Neg.f N r663.1 r663.2).bind fun r664 =>
        (zint_Int_Int64.f N r664.1 r664.2).bind fun r665 =>
        (zint_Int_Int64.f N r663.1 r663.2).bind fun r666 =>
        some false
      else
      (zint_Of.f N 12).bind fun r667 =>
      (zint_Of.f N 18).bind fun r668 =>
      (zint_Gcd.f N r667.1 r667.2 r668.1 r668.2).bind fun r669 =>
      (zint_Make.f N false r669.1).bind fun r670 =>
      (zint_Of.f N 6).bind fun r671 =>
      (zint_Cmp.f N r670.1 r670.2 r671.1 r671.2).bind fun r672 =>
      bif r672 != 0 then
        some false
      else
      (zint_Of.f N 2).bind fun r673 =>
      (zint_Cmp.f N r669.2.1 r669.2.2.1 r673.1 r673.2).bind fun r674 =>
      bif r674 != 0 then
        some false
      else
      (zint_Of.f N (-1)).bind fun r675 =>
      (zint_Cmp.f N r669.2.2.2.1 r669.2.2.2.2 r675.1 r675.2).bind fun r676 =>
      bif r676 != 0 then
        some false
      else
      (zint_Of.f N (-12)).bind fun r677 =>
      (zint_Of.f N 18).bind fun r678 =>
      (zint_Gcd.f N r677.1 r677.2 r678.1 r678.2).bind fun r679 =>
      (zint_Make.f N false r679.1).bind fun r680 =>
      (zint_Of.f N 6).bind fun r681 =>
      (zint_Cmp.f N r680.1 r680.2 r681.1 r681.2).bind fun r682 =>
      bif r682 != 0 then
        some false
      else
      (zint_Of.f N 1).bind fun r683 =>
      (zint_Cmp.f N r679.2.1 r679.2.2.1 r683.1 r683.2).bind fun r684 =>
      bif r684 != 0 then
        some false
      else
      (zint_Of.f N 1).bind fun r685 =>
      (zint_Cmp.f N r679.2.2.2.1 r679.2.2.2.2 r685.1 r685.2).bind fun r686 =>
      bif r686 != 0 then
        some false
      else
      (zint_Of.f N 5).bind fun r687 =>
      (zint_Of.f N 0).bind fun r688 =>
      (zint_Gcd.f N r687.1 r687.2 r688.1 r688.2).bind fun r689 =>
      (zint_Make.f N false r689.1).bind fun r690 =>
      (zint_Of.f N 5).bind fun r691 =>
      (zint_Cmp.f N r690.1 r690.2 r691.1 r691.2).bind fun r692 =>
      bif r692 != 0 then
        some false
      else
      (zint_Of.f N 1).bind fun r693 =>
      (zint_Cmp.f N r689.2.1 r689.2.2.1 r693.1 r693.2).bind fun r694 =>
      bif r694 != 0 then
        some false
      else
      (zint_Of.f N 0).bind fun r695 =>
      (zint_Cmp.f N r689.2.2.2.1 r689.2.2.2.2 r695.1 r695.2).bind fun r696 =>
      bif r696 != 0 then
        some false
      else
      (zint_Of.f N (-5)).bind fun r697 =>
      (zint_Of.f N 0).bind fun r698 =>
      (zint_Gcd.f N r697.1 r697.2 r698.1 r698.2).bind fun r699 =>
      (zint_Make.f N false r699.1).bind fun r700 =>
      (zint_Of.f N 5).bind fun r701 =>
      (zint_Cmp.f N r700.1 r700.2 r701.1 r701.2).bind fun r702 =>
      bif r702 != 0 then
        some false
      else
      (zint_Of.f N (-1)).bind fun r703 =>
      (zint_Cmp.f N r699.2.1 r699.2.2.1 r703.1 r703.2).bind fun r704 =>
      bif r704 != 0 then
        some false
      else
      (zint_Of.f N 0).bind fun r705 =>
      (zint_Cmp.f N r699.2.2.2.1 r699.2.2.2.2 r705.1 r705.2).bind fun r706 =>
      bif r706 != 0 then
        some false
      else
      (zint_Of.f N 0).bind fun r707 =>
      (zint_Of.f N (-7)).bind fun r708 =>
      (zint_Gcd.f N r707.1 r707.2 r708.1 r708.2).bind fun r709 =>
      (zint_Make.f N false r709.1).bind fun r710 =>
      (zint_Of.f N 7).bind fun r711 =>
      (zint_Cmp.f N r710.1 r710.2 r711.1 r711.2).bind fun r712 =>
      bif r712 != 0 then
        some false
      else
      (zint_Of.f N 0).bind fun r713 =>
      (zint_Cmp.f N r709.2.1 r709.2.2.1 r713.1 r713.2).bind fun r714 =>
      bif r714 != 0 then
        some false
      else
      (zint_Of.f N (-1)).bind fun r715 =>
      (zint_Cmp.f N r709.2.2.2.1 r709.2.2.2.2 r715.1 r715.2).bind fun r716 =>
      bif r716 != 0 then
        some false
      else
      (zint_Of.f N 0).bind fun r717 =>
      (zint_Of.f N 0).bind fun r718 =>
      (zint_Gcd.f N r717.1 r717.2 r718.1 r718.2).bind fun r719 =>
      (zint_Make.f N false r719.1).bind fun r720 =>
      (zint_Of.f N 0).bind fun r721 =>
      (zint_Cmp.f N r720.1 r720.2 r721.1 r721.2).bind fun r722 =>
      bif r722 != 0 then
        some false
      else
      (zint_Of.f N 0).bind fun r723 =>
      (zint_Cmp.f N r719.2.1 r719.2.2.1 r723.1 r723.2).bind fun r724 =>
      bif r724 != 0 then
        some false
      else
      (zint_Of.f N 0).bind fun r725 =>
      (zint_Cmp.f N r719.2.2.2.1 r719.2.2.2.2 r725.1 r725.2).bind fun r726 =>
      bif r726 != 0 then
        some false
      else
      (zint_Of.f N (-9223372036854775808)).bind fun r727 =>
      (zint_Neg.f N r727.1 r727.2).bind fun r728 =>
      (zint_Int_Int64.f N r728.1 r728.2).bind fun r729 =>
      (zint_Int_Int64.f N r727.1 r727.2).bind fun r730 =>
      some false
    else
    (zint_Of.f N 12).bind fun r731 =>
    (zint_Of.f N 18).bind fun r732 =>
    (zint_Gcd.f N r731.1 r731.2 r732.1 r732.2).bind fun r733 =>
    (zint_Make.f N false r733.1).bind fun r734 =>
    (zint_Of.f N 6).bind fun r735 =>
    (zint_Cmp.f N r734.1 r734.2 r735.1 r735.2).bind fun r736 =>
    bif r736 != 0 then
      some false
    else
    (zint_Of.f N 2).bind fun r737 =>
    (zint_Cmp.f N r733.2.1 r733.2.2.1 r737.1 r737.2).bind fun r738 =>
    bif r738 != 0 then
      some false
    else
    (zint_Of.f N (-1)).bind fun r739 =>
    (zint_Cmp.f N r733.2.2.2.1 r733.2.2.2.2 r739.1 r739.2).bind fun r740 =>
    bif r740 != 0 then
      some false
    else
    (zint_Of.f N (-12)).bind fun r741 =>
    (zint_Of.f N 18).bind fun r742 =>
    (zint_Gcd.f N r741.1 r741.2 r742.1 r742.2).bind fun r743 =>
    (zint_Make.f N false r743.1).bind fun r744 =>
    (zint_Of.f N 6).bind fun r745 =>
    (zint_Cmp.f N r744.1 r744.2 r745.1 r745.2).bind fun r746 =>
    bif r746 != 0 then
      some false
    else
    (zint_Of.f N 1).bind fun r747 =>
    (zint_Cmp.f N r743.2.1 r743.2.2.1 r747.1 r747.2).bind fun r748 =>
    bif r748 != 0 then
      some false
    else
    (zint_Of.f N 1).bind fun r749 =>
    (zint_Cmp.f N r743.2.2.2.1 r743.2.2.2.2 r749.1 r749.2).bind fun r750 =>
    bif r750 != 0 then
      some false
    else
    (zint_Of.f N 5).bind fun r751 =>
    (zint_Of.f N 0).bind fun r752 =>
    (zint_Gcd.f N r751.1 r751.2 r752.1 r752.2).bind fun r753 =>
    (zint_Make.f N false r753.1).bind fun r754 =>
    (zint_Of.f N 5).bind fun r755 =>
    (zint_Cmp.f N r754.1 r754.2 r755.1 r755.2).bind fun r756 =>
    bif r756 != 0 then
      some false
    else
    (zint_Of.f N 1).bind fun r757 =>
    (zint_Cmp.f N r753.2.1 r753.2.2.1 r757.1 r757.2).bind fun r758 =>
    bif r758 != 0 then
      some false
    else
    (zint_Of.f N 0).bind fun r759 =>
    (zint_Cmp.f N r753.2.2.2.1 r753.2.2.2.2 r759.1 r759.2).bind fun r760 =>
    bif r760 != 0 then
      some false
    else
    (zint_Of.f N (-5)).bind fun r761 =>
    (zint_Of.f N 0).bind fun r762 =>
    (zint_Gcd.f N r761.1 r761.2 r762.1 r762.2).bind fun r763 =>
    (zint_Make.f N false r763.1).bind fun r764 =>
    (zint_Of.f N 5).bind fun r765 =>
    (zint_Cmp.f N r764.1 r764.2 r765.1 r765.2).bind fun r766 =>
    bif r766 != 0 then
      some false
    else
    (zint_Of.f N (-1)).bind fun r767 =>
    (zint_Cmp.f N r763.2.1 r763.2.2.1 r767.1 r767.2).bind fun r768 =>
    bif r768 != 0 then
      some false
    else
    (zint_Of.f N 0).bind fun r769 =>
    (zint_Cmp.f N r763.2.2.2.1 r763.2.2.2.2 r769.1 r769.2).bind fun r770 =>
    bif r770 != 0 then
      some false
    else
    (zint_Of.f N 0).bind fun r771 =>
    (zint_Of.f N (-7)).bind fun r772 =>
    (zint_Gcd.f N r771.1 r771.2 r772.1 r772.2).bind fun r773 =>
    (zint_Make.f N false r773.1).bind fun r774 =>
    (zint_Of.f N 7).bind fun r775 =>
    (zint_Cmp.f N r774.1 r774.2 r775.1 r775.2).bind fun r776 =>
    bif r776 != 0 then
      some false
    else
    (zint_Of.f N 0).bind fun r777 =>
    (zint_Cmp.f N r773.2.1 r773.2.2.1 r777.1 r777.2).bind fun r778 =>
    bif r778 != 0 then
      some false
    else
    (zint_Of.f N (-1)).bind fun r779 =>
    (zint_Cmp.f N r773.2.2.2.1 r773.2.2.2.2 r779.1 r779.2).bind fun r780 =>
    bif r780 != 0 then
      some false
    else
    (zint_Of.f N 0).bind fun r781 =>
    (zint_Of.f N 0).bind fun r782 =>
    (zint_Gcd.f N r781.1 r781.2 r782.1 r782.2).bind fun r783 =>
    (zint_Make.f N false r783.1).bind fun r784 =>
    (zint_Of.f N 0).bind fun r785 =>
    (zint_Cmp.f N r784.1 r784.2 r785.1 r785.2).bind fun r786 =>
    bif r786 != 0 then
      some false
    else
    (zint_Of.f N 0).bind fun r787 =>
    (zint_Cmp.f N r783.2.1 r783.2.2.1 r787.1 r787.2).bind fun r788 =>
    bif r788 != 0 then
      some false
    else
    (zint_Of.f N 0).bind fun r789 =>
    (zint_Cmp.f N r783.2.2.2.1 r783.2.2.2.2 r789.1 r789.2).bind fun r790 =>
    bif r790 != 0 then
      some false
    else
    (zint_Of.f N (-9223372036854775808)).bind fun r791 =>
    (zint_Neg.f N r791.1 r791.2).bind fun r792 =>
    (zint_Int_Int64.f N r792.1 r792.2).bind fun r793 =>
    (zint_Int_Int64.f N r791.1 r791.2).bind fun r794 =>
    some false
  else
  (zint_Of.f N 12).bind fun r795 =>
  (zint_Of.f N 18).bind fun r796 =>
  (zint_Gcd.f N r795.1 r795.2 r796.1 r796.2).bind fun r797 =>
  (zint_Make.f N false r797.1).bind fun r798 =>
  (zint_Of.f N 6).bind fun r799 =>
  (zint_Cmp.f N r798.1 r798.2 r799.1 r799.2).bind fun r800 =>
  bif r800 != 0 then
    some false
  else
  (zint_Of.f N 2).bind fun r801 =>
  (zint_Cmp.f N r797.2.1 r797.2.2.1 r801.1 r801.2).bind fun r802 =>
  bif r802 != 0 then
    some false
  else
  (zint_Of.f N (-1)).bind fun r803 =>
  (zint_Cmp.f N r797.2.2.2.1 r797.2.2.2.2 r803.1 r803.2).bind fun r804 =>
  bif r804 != 0 then
    some false
  else
  (zint_Of.f N (-12)).bind fun r805 =>
  (zint_Of.f N 18).bind fun r806 =>
  (zint_Gcd.f N r805.1 r805.2 r806.1 r806.2).bind fun r807 =>
  (zint_Make.f N false r807.1).bind fun r808 =>
  (zint_Of.f N 6).bind fun r809 =>
  (zint_Cmp.f N r808.1 r808.2 r809.1 r809.2).bind fun r810 =>
  bif r810 != 0 then
    some false
  else
  (zint_Of.f N 1).bind fun r811 =>
  (zint_Cmp.f N r807.2.1 r807.2.2.1 r811.1 r811.2).bind fun r812 =>
  bif r812 != 0 then
    some false
  else
  (zint_Of.f N 1).bind fun r813 =>
  (zint_Cmp.f N r807.2.2.2.1 r807.2.2.2.2 r813.1 r813.2).bind fun r814 =>
  bif r814 != 0 then
    some false
  else
  (zint_Of.f N 5).bind fun r815 =>
  (zint_Of.f N 0).bind fun r816 =>
  (zint_Gcd.f N r815.1 r815.2 r816.1 r816.2).bind fun r817 =>
  (zint_Make.f N false r817.1).bind fun r818 =>
  (zint_Of.f N 5).bind fun r819 =>
  (zint_Cmp.f N r818.1 r818.2 r819.1 r819.2).bind fun r820 =>
  bif r820 != 0 then
    some false
  else
  (zint_Of.f N 1).bind fun r821 =>
  (zint_Cmp.f N r817.2.1 r817.2.2.1 r821.1 r821.2).bind fun r822 =>
  bif r822 != 0 then
    some false
  else
  (zint_Of.f N 0).bind fun r823 =>
  (zint_Cmp.f N r817.2.2.2.1 r817.2.2.2.2 r823.1 r823.2).bind fun r824 =>
  bif r824 != 0 then
    some false
  else
  (zint_Of.f N (-5)).bind fun r825 =>
  (zint_Of.f N 0).bind fun r826 =>
  (zint_Gcd.f N r825.1 r825.2 r826.1 r826.2).bind fun r827 =>
  (zint_Make.f N false r827.1).bind fun r828 =>
  (zint_Of.f N 5).bind fun r829 =>
  (zint_Cmp.f N r828.1 r828.2 r829.1 r829.2).bind fun r830 =>
  bif r830 != 0 then
    some false
  else
  (zint_Of.f N (-1)).bind fun r831 =>
  (zint_Cmp.f N r827.2.1 r827.2.2.1 r831.1 r831.2).bind fun r832 =>
  bif r832 != 0 then
    some false
  else
  (zint_Of.f N 0).bind fun r833 =>
  (zint_Cmp.f N r827.2.2.2.1 r827.2.2.2.2 r833.1 r833.2).bind fun r834 =>
  bif r834 != 0 then
    some false
  else
  (zint_Of.f N 0).bind fun r835 =>
  (zint_Of.f N (-7)).bind fun r836 =>
  (zint_Gcd.f N r835.1 r835.2 r836.1 r836.2).bind fun r837 =>
  (zint_Make.f N false r837.1).bind fun r838 =>
  (zint_Of.f N 7).bind fun r839 =>
  (zint_Cmp.f N r838.1 r838.2 r839.1 r839.2).bind fun r840 =>
  bif r840 != 0 then
    some false
  else
  (zint_Of.f N 0).bind fun r841 =>
  (zint_Cmp.f N r837.2.1 r837.2.2.1 r841.1 r841.2).bind fun r842 =>
  bif r842 != 0 then
    some false
  else
  (zint_Of.f N (-1)).bind fun r843 =>
  (zint_Cmp.f N r837.2.2.2.1 r837.2.2.2.2 r843.1 r843.2).bind fun r844 =>
  bif r844 != 0 then
    some false
  else
  (zint_Of.f N 0).bind fun r845 =>
  (zint_Of.f N 0).bind fun r846 =>
  (zint_Gcd.f N r845.1 r845.2 r846.1 r846.2).bind fun r847 =>
  (zint_Make.f N false r847.1).bind fun r848 =>
  (zint_Of.f N 0).bind fun r849 =>
  (zint_Cmp.f N r848.1 r848.2 r849.1 r849.2).bind fun r850 =>
  bif r850 != 0 then
    some false
  else
  (zint_Of.f N 0).bind fun r851 =>
  (zint_Cmp.f N r847.2.1 r847.2.2.1 r851.1 r851.2).bind fun r852 =>
  bif r852 != 0 then
    some false
  else
  (zint_Of.f N 0).bind fun r853 =>
  (zint_Cmp.f N r847.2.2.2.1 r847.2.2.2.2 r853.1 r853.2).bind fun r854 =>
  bif r854 != 0 then
    some false
  else
  (zint_Of.f N (-9223372036854775808)).bind fun r855 =>
  (zint_Neg.f N r855.1 r855.2).bind fun r856 =>
  (zint_Int_Int64.f N r856.1 r856.2).bind fun r857 =>
  (zint_Int_Int64.f N r855.1 r855.2).bind fun r858 =>
  some false
noncomputable def parquetlaw02_ZintKnown.body : Code := (Try.f10.body).getD .skip
noncomputable def parquetlaw02_ZintKnown.ty : List (Nat × TI) := [(2, ty2), (25, ty25), (27, ty27), (80, ty80), (81, ty81)]
noncomputable def parquetlaw02_ZintKnown.h13 : Hint := ⟨[(24, .any), (25, .any)], [(24, .any)]⟩
noncomputable def parquetlaw02_ZintKnown.E (N : Nat) : Env := { ty := lookN parquetlaw02_ZintKnown.ty, tab := lookN [(12, zint_Parse.ent N), (24, zint_Of.ent N), (18, zint_Quo.ent N), (19, zint_Exact.ent N), (14, zint_Int_Text.ent N), (47, zint_Gcd.ent N), (26, zint_Make.ent N), (33, zint_Cmp.ent N), (41, zint_Neg.ent N), (30, zint_Int_Int64.ent N), (11, parquetlaw02_wakes.ent N)], hint := lookN [(13, parquetlaw02_ZintKnown.h13)], cut := lookN [], N := 40, res := [.tmp 0], rsh := [.any], nb := 0, ntmps := 222, own := false }
noncomputable def parquetlaw02_ZintKnown.dec (v : V) (bs : List Blk) : Option (Bool) := match v, bs with
  | .c (.bool z0), [] => some z0
  | _, _ => none
set_option maxRecDepth 100000 in
theorem parquetlaw02_ZintKnown.f_eq (N : Nat) :
    evFun (parquetlaw02_ZintKnown.E N) parquetlaw02_ZintKnown.body [] [] parquetlaw02_ZintKnown.dec = parquetlaw02_ZintKnown.f N := by kernel_rfl
noncomputable def parquetlaw02_ZintKnown.ent (N : Nat) : Entry := { A := Bool, fresh := 0, imm := [], dec := fun args bs => match freezeL 0 (fun _ => .dead) [] args, bs with
  | some [], [] => some (parquetlaw02_ZintKnown.f N, fun r => .one (.c (.bool r)) [])
  | _, _ => none }
theorem parquetlaw02_ZintKnown.env (N : Nat) : EnvOK Try.prog (parquetlaw02_ZintKnown.E N) := ⟨(TyOK.cons ty2_ok (TyOK.cons ty25_ok (TyOK.cons ty27_ok (TyOK.cons ty80_ok (TyOK.cons ty81_ok TyOK.nil))))), (TabOK.cons (zint_Parse.ent_ok N) (TabOK.cons (zint_Of.ent_ok N) (TabOK.cons (zint_Quo.ent_ok N) (TabOK.cons (zint_Exact.ent_ok N) (TabOK.cons (zint_Int_Text.ent_ok N) (TabOK.cons (zint_Gcd.ent_ok N) (TabOK.cons (zint_Make.ent_ok N) (TabOK.cons (zint_Cmp.ent_ok N) (TabOK.cons (zint_Neg.ent_ok N) (TabOK.cons (zint_Int_Int64.ent_ok N) (TabOK.cons (parquetlaw02_wakes.ent_ok N) TabOK.nil)))))))))))⟩
theorem parquetlaw02_ZintKnown.res_eq (N : Nat) : (parquetlaw02_ZintKnown.E N).res = Try.f10.results.toList := by kernel_rfl
theorem parquetlaw02_ZintKnown.spec (N : Nat) (r : Bool) (h : parquetlaw02_ZintKnown.f N = some r) : FnSpec Try.prog 10 [] [] (.c (.bool r)) ([]) := by
  rw [← parquetlaw02_ZintKnown.f_eq] at h
  obtain ⟨v, bs', h1, h2⟩ := evFun_ok (parquetlaw02_ZintKnown.env N) Try_mixed Try.func10 (by kernel_rfl : Try.f10.body = some parquetlaw02_ZintKnown.body) (by kernel_rfl) (parquetlaw02_ZintKnown.res_eq N) (by kernel_rfl) (by kernel_rfl) (Nat.le_of_ble_eq_true (by kernel_rfl)) (AllCut.of (l := [(.loop (inner ((subLoops parquetlaw02_ZintKnown.body).getD 0 .skip)))]) (by kernel_rfl) (AllCut.cons (cut_loop (by kernel_rfl)) AllCut.nil)) h
  unfold parquetlaw02_ZintKnown.dec at h1; split at h1
  · cases h1; exact h2
  · cases h1
theorem parquetlaw02_ZintKnown.ent_ok (N : Nat) : TabOK1 Try.prog 10 (parquetlaw02_ZintKnown.ent N) := by
  intro args bs a enc h
  simp only [parquetlaw02_ZintKnown.ent] at h
  split at h
  · rename_i hz; have h0 := Option.some.inj h; have h1 := congrArg Prod.fst h0; have h2 := congrArg Prod.snd h0; dsimp only at h1 h2; subst h2; exact FnSpec.of_freeze hz (parquetlaw02_ZintKnown.spec N a h1)
  · cases h
end Go.Proofs.Ytndhfopllmbjhaa
