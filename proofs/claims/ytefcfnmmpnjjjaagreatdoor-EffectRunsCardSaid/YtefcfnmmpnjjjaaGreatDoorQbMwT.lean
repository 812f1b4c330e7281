/- Facts of the types and functions of this program, each by evaluation. -/
import Derived.Test.YtefcfnmmpnjjjaaGreatDoorProg
import Derived.Test.YtefcfnmmpnjjjaaGreatDoorQbMwBase
namespace Go.Proofs.YtefcfnmmpnjjjaaGreatDoor
open Go.RowKit
set_option maxRecDepth 100000
theorem follows_mo : Go.Proofs.Tryz.prog.follows .mixedOrders = true := by kernel_rfl
theorem tok_3 : tok Go.Proofs.Tryz.prog 3 = true := by kernel_rfl
theorem tsz_3 : tsz Go.Proofs.Tryz.prog 3 = 1 := by kernel_rfl
theorem tby_3 : tbytes Go.Proofs.Tryz.prog 3 = 8 := by kernel_rfl
theorem tagg_3 : tagg Go.Proofs.Tryz.prog 3 = false := by kernel_rfl
theorem tzero_3 : tzero Go.Proofs.Tryz.prog 3 = some (.int .i64 0) := by kernel_rfl
theorem tkind_3 : tkind Go.Proofs.Tryz.prog 3 = some .i64 := by kernel_rfl
theorem tok_9 : tok Go.Proofs.Tryz.prog 9 = true := by kernel_rfl
theorem tsz_9 : tsz Go.Proofs.Tryz.prog 9 = 1 := by kernel_rfl
theorem tby_9 : tbytes Go.Proofs.Tryz.prog 9 = 16 := by kernel_rfl
theorem tagg_9 : tagg Go.Proofs.Tryz.prog 9 = false := by kernel_rfl
theorem tzero_9 : tzero Go.Proofs.Tryz.prog 9 = some (.string { data := #[] }) := by kernel_rfl
theorem tstr_9 : tstr Go.Proofs.Tryz.prog 9 = true := by kernel_rfl
theorem tok_22 : tok Go.Proofs.Tryz.prog 22 = true := by kernel_rfl
theorem tsz_22 : tsz Go.Proofs.Tryz.prog 22 = 1 := by kernel_rfl
theorem tagg_22 : tagg Go.Proofs.Tryz.prog 22 = false := by kernel_rfl
theorem telem_22 : telem Go.Proofs.Tryz.prog 22 = some 3 := by kernel_rfl
theorem tok_24 : tok Go.Proofs.Tryz.prog 24 = true := by kernel_rfl
theorem tsz_24 : tsz Go.Proofs.Tryz.prog 24 = 3 := by kernel_rfl
theorem tagg_24 : tagg Go.Proofs.Tryz.prog 24 = true := by kernel_rfl
theorem tzero_24 : tzero Go.Proofs.Tryz.prog 24 = some (.agg #[.int .i64 0, .slice none 0 0, .slice none 0 0]) := by kernel_rfl
theorem tfld_24_0 : tfld Go.Proofs.Tryz.prog 24 0 = some (3, 0) := by kernel_rfl
theorem fldA_24_0 : fldA Go.Proofs.Tryz.prog 24 0 = some 0 := by kernel_rfl
theorem tfld_24_1 : tfld Go.Proofs.Tryz.prog 24 1 = some (22, 1) := by kernel_rfl
theorem fldA_24_1 : fldA Go.Proofs.Tryz.prog 24 1 = some 1 := by kernel_rfl
theorem tfld_24_2 : tfld Go.Proofs.Tryz.prog 24 2 = some (22, 2) := by kernel_rfl
theorem fldA_24_2 : fldA Go.Proofs.Tryz.prog 24 2 = some 2 := by kernel_rfl
theorem tok_27 : tok Go.Proofs.Tryz.prog 27 = true := by kernel_rfl
theorem tsz_27 : tsz Go.Proofs.Tryz.prog 27 = 1 := by kernel_rfl
theorem tagg_27 : tagg Go.Proofs.Tryz.prog 27 = false := by kernel_rfl
theorem tptr_27 : tptr Go.Proofs.Tryz.prog 27 = true := by kernel_rfl
theorem tok_28 : tok Go.Proofs.Tryz.prog 28 = true := by kernel_rfl
theorem tsz_28 : tsz Go.Proofs.Tryz.prog 28 = 1 := by kernel_rfl
theorem tagg_28 : tagg Go.Proofs.Tryz.prog 28 = false := by kernel_rfl
theorem tzero_28 : tzero Go.Proofs.Tryz.prog 28 = some (.int .i64 0) := by kernel_rfl
theorem tkind_28 : tkind Go.Proofs.Tryz.prog 28 = some .i64 := by kernel_rfl
theorem tok_39 : tok Go.Proofs.Tryz.prog 39 = true := by kernel_rfl
theorem tsz_39 : tsz Go.Proofs.Tryz.prog 39 = 6 := by kernel_rfl
theorem tagg_39 : tagg Go.Proofs.Tryz.prog 39 = true := by kernel_rfl
theorem tzero_39 : tzero Go.Proofs.Tryz.prog 39 = some (.agg #[.int .i64 0, .slice none 0 0, .slice none 0 0, .slice none 0 0, .int .i64 0, .int .i64 0]) := by kernel_rfl
theorem tfld_39_0 : tfld Go.Proofs.Tryz.prog 39 0 = some (24, 0) := by kernel_rfl
theorem fldA_39_0 : fldA Go.Proofs.Tryz.prog 39 0 = some 0 := by kernel_rfl
theorem tfld_39_1 : tfld Go.Proofs.Tryz.prog 39 1 = some (22, 3) := by kernel_rfl
theorem fldA_39_1 : fldA Go.Proofs.Tryz.prog 39 1 = some 3 := by kernel_rfl
theorem tfld_39_2 : tfld Go.Proofs.Tryz.prog 39 2 = some (3, 4) := by kernel_rfl
theorem fldA_39_2 : fldA Go.Proofs.Tryz.prog 39 2 = some 4 := by kernel_rfl
theorem tfld_39_3 : tfld Go.Proofs.Tryz.prog 39 3 = some (3, 5) := by kernel_rfl
theorem fldA_39_3 : fldA Go.Proofs.Tryz.prog 39 3 = some 5 := by kernel_rfl
theorem tok_78 : tok Go.Proofs.Tryz.prog 78 = true := by kernel_rfl
theorem tsz_78 : tsz Go.Proofs.Tryz.prog 78 = 1 := by kernel_rfl
theorem tagg_78 : tagg Go.Proofs.Tryz.prog 78 = false := by kernel_rfl
theorem tifc_78 : tifc Go.Proofs.Tryz.prog 78 = true := by kernel_rfl
theorem tok_80 : tok Go.Proofs.Tryz.prog 80 = true := by kernel_rfl
theorem tsz_80 : tsz Go.Proofs.Tryz.prog 80 = 4 := by kernel_rfl
theorem tagg_80 : tagg Go.Proofs.Tryz.prog 80 = true := by kernel_rfl
theorem tzero_80 : tzero Go.Proofs.Tryz.prog 80 = some (.agg #[.nilIface, .int .i64 0, .slice none 0 0, .slice none 0 0]) := by kernel_rfl
theorem tfld_80_0 : tfld Go.Proofs.Tryz.prog 80 0 = some (78, 0) := by kernel_rfl
theorem fldA_80_0 : fldA Go.Proofs.Tryz.prog 80 0 = some 0 := by kernel_rfl
theorem tfld_80_1 : tfld Go.Proofs.Tryz.prog 80 1 = some (24, 1) := by kernel_rfl
theorem fldA_80_1 : fldA Go.Proofs.Tryz.prog 80 1 = some 1 := by kernel_rfl
theorem tok_85 : tok Go.Proofs.Tryz.prog 85 = true := by kernel_rfl
theorem tsz_85 : tsz Go.Proofs.Tryz.prog 85 = 1 := by kernel_rfl
theorem tagg_85 : tagg Go.Proofs.Tryz.prog 85 = false := by kernel_rfl
theorem tzero_85 : tzero Go.Proofs.Tryz.prog 85 = some (.slice none 0 0) := by kernel_rfl
theorem telem_85 : telem Go.Proofs.Tryz.prog 85 = some 9 := by kernel_rfl
theorem tok_88 : tok Go.Proofs.Tryz.prog 88 = true := by kernel_rfl
theorem tsz_88 : tsz Go.Proofs.Tryz.prog 88 = 1 := by kernel_rfl
theorem tagg_88 : tagg Go.Proofs.Tryz.prog 88 = true := by kernel_rfl
theorem tzero_88 : tzero Go.Proofs.Tryz.prog 88 = some (.agg #[.slice none 0 0]) := by kernel_rfl
theorem tfld_88_0 : tfld Go.Proofs.Tryz.prog 88 0 = some (85, 0) := by kernel_rfl
theorem fldA_88_0 : fldA Go.Proofs.Tryz.prog 88 0 = some 0 := by kernel_rfl
theorem tconc_96 : tconc Go.Proofs.Tryz.prog 96 = true := by kernel_rfl
theorem tzero_96 : tzero Go.Proofs.Tryz.prog 96 = some (.pointer none) := by kernel_rfl
theorem meth_96_continuo_effect_resume : methB Go.Proofs.Tryz.prog 96 "continuo/effect.resume" = some 178 := by kernel_rfl
theorem meth_96_continuo_effect_state : methB Go.Proofs.Tryz.prog 96 "continuo/effect.state" = some 179 := by kernel_rfl
theorem meth_96_continuo_effect_step : methB Go.Proofs.Tryz.prog 96 "continuo/effect.step" = some 180 := by kernel_rfl
theorem tok_98 : tok Go.Proofs.Tryz.prog 98 = true := by kernel_rfl
theorem tsz_98 : tsz Go.Proofs.Tryz.prog 98 = 5 := by kernel_rfl
theorem tagg_98 : tagg Go.Proofs.Tryz.prog 98 = true := by kernel_rfl
theorem tzero_98 : tzero Go.Proofs.Tryz.prog 98 = some (.agg #[.int .i64 0, .int .i64 0, .int .i64 0, .int .i64 0, .int .i64 0]) := by kernel_rfl
theorem tfld_98_0 : tfld Go.Proofs.Tryz.prog 98 0 = some (3, 0) := by kernel_rfl
theorem fldA_98_0 : fldA Go.Proofs.Tryz.prog 98 0 = some 0 := by kernel_rfl
theorem tfld_98_1 : tfld Go.Proofs.Tryz.prog 98 1 = some (3, 1) := by kernel_rfl
theorem fldA_98_1 : fldA Go.Proofs.Tryz.prog 98 1 = some 1 := by kernel_rfl
theorem tfld_98_2 : tfld Go.Proofs.Tryz.prog 98 2 = some (3, 2) := by kernel_rfl
theorem fldA_98_2 : fldA Go.Proofs.Tryz.prog 98 2 = some 2 := by kernel_rfl
theorem tfld_98_3 : tfld Go.Proofs.Tryz.prog 98 3 = some (3, 3) := by kernel_rfl
theorem fldA_98_3 : fldA Go.Proofs.Tryz.prog 98 3 = some 3 := by kernel_rfl
theorem tfld_98_4 : tfld Go.Proofs.Tryz.prog 98 4 = some (3, 4) := by kernel_rfl
theorem fldA_98_4 : fldA Go.Proofs.Tryz.prog 98 4 = some 4 := by kernel_rfl
theorem tok_100 : tok Go.Proofs.Tryz.prog 100 = true := by kernel_rfl
theorem tsz_100 : tsz Go.Proofs.Tryz.prog 100 = 5 := by kernel_rfl
theorem tagg_100 : tagg Go.Proofs.Tryz.prog 100 = true := by kernel_rfl
theorem tzero_100 : tzero Go.Proofs.Tryz.prog 100 = some (.agg #[.int .i64 0, .int .i64 0, .int .i64 0, .int .i64 0, .int .i64 0]) := by kernel_rfl
theorem tfld_100_0 : tfld Go.Proofs.Tryz.prog 100 0 = some (98, 0) := by kernel_rfl
theorem fldA_100_0 : fldA Go.Proofs.Tryz.prog 100 0 = some 0 := by kernel_rfl
theorem tconc_101 : tconc Go.Proofs.Tryz.prog 101 = true := by kernel_rfl
theorem tzero_101 : tzero Go.Proofs.Tryz.prog 101 = some (.pointer none) := by kernel_rfl
theorem meth_101_continuo_effect_resume : methB Go.Proofs.Tryz.prog 101 "continuo/effect.resume" = some 182 := by kernel_rfl
theorem meth_101_continuo_effect_state : methB Go.Proofs.Tryz.prog 101 "continuo/effect.state" = some 183 := by kernel_rfl
theorem meth_101_continuo_effect_step : methB Go.Proofs.Tryz.prog 101 "continuo/effect.step" = some 184 := by kernel_rfl
theorem tok_103 : tok Go.Proofs.Tryz.prog 103 = true := by kernel_rfl
theorem tsz_103 : tsz Go.Proofs.Tryz.prog 103 = 2 := by kernel_rfl
theorem tagg_103 : tagg Go.Proofs.Tryz.prog 103 = true := by kernel_rfl
theorem tzero_103 : tzero Go.Proofs.Tryz.prog 103 = some (.agg #[.slice none 0 0, .int .i64 0]) := by kernel_rfl
theorem tfld_103_0 : tfld Go.Proofs.Tryz.prog 103 0 = some (22, 0) := by kernel_rfl
theorem fldA_103_0 : fldA Go.Proofs.Tryz.prog 103 0 = some 0 := by kernel_rfl
theorem tfld_103_1 : tfld Go.Proofs.Tryz.prog 103 1 = some (3, 1) := by kernel_rfl
theorem fldA_103_1 : fldA Go.Proofs.Tryz.prog 103 1 = some 1 := by kernel_rfl
theorem tok_105 : tok Go.Proofs.Tryz.prog 105 = true := by kernel_rfl
theorem tsz_105 : tsz Go.Proofs.Tryz.prog 105 = 7 := by kernel_rfl
theorem tagg_105 : tagg Go.Proofs.Tryz.prog 105 = true := by kernel_rfl
theorem tzero_105 : tzero Go.Proofs.Tryz.prog 105 = some (.agg #[.int .i64 0, .int .i64 0, .int .i64 0, .int .i64 0, .int .i64 0, .slice none 0 0, .int .i64 0]) := by kernel_rfl
theorem tfld_105_0 : tfld Go.Proofs.Tryz.prog 105 0 = some (98, 0) := by kernel_rfl
theorem fldA_105_0 : fldA Go.Proofs.Tryz.prog 105 0 = some 0 := by kernel_rfl
theorem tfld_105_1 : tfld Go.Proofs.Tryz.prog 105 1 = some (103, 5) := by kernel_rfl
theorem fldA_105_1 : fldA Go.Proofs.Tryz.prog 105 1 = some 5 := by kernel_rfl
theorem tok_132 : tok Go.Proofs.Tryz.prog 132 = true := by kernel_rfl
theorem tsz_132 : tsz Go.Proofs.Tryz.prog 132 = 1 := by kernel_rfl
theorem tagg_132 : tagg Go.Proofs.Tryz.prog 132 = false := by kernel_rfl
theorem telem_132 : telem Go.Proofs.Tryz.prog 132 = some 133 := by kernel_rfl
theorem tok_133 : tok Go.Proofs.Tryz.prog 133 = true := by kernel_rfl
theorem tsz_133 : tsz Go.Proofs.Tryz.prog 133 = 2 := by kernel_rfl
theorem tby_133 : tbytes Go.Proofs.Tryz.prog 133 = 16 := by kernel_rfl
theorem tagg_133 : tagg Go.Proofs.Tryz.prog 133 = true := by kernel_rfl
theorem tzero_133 : tzero Go.Proofs.Tryz.prog 133 = some (.agg #[.int .i64 0, .int .i64 0]) := by kernel_rfl
theorem tarr_133 : tarr Go.Proofs.Tryz.prog 133 = some (2, 3) := by kernel_rfl
theorem tok_140 : tok Go.Proofs.Tryz.prog 140 = true := by kernel_rfl
theorem tsz_140 : tsz Go.Proofs.Tryz.prog 140 = 0 := by kernel_rfl
theorem tagg_140 : tagg Go.Proofs.Tryz.prog 140 = true := by kernel_rfl
theorem tconc_140 : tconc Go.Proofs.Tryz.prog 140 = true := by kernel_rfl
theorem tzero_140 : tzero Go.Proofs.Tryz.prog 140 = some (.agg #[]) := by kernel_rfl
theorem tok_145 : tok Go.Proofs.Tryz.prog 145 = true := by kernel_rfl
theorem tsz_145 : tsz Go.Proofs.Tryz.prog 145 = 1 := by kernel_rfl
theorem tagg_145 : tagg Go.Proofs.Tryz.prog 145 = false := by kernel_rfl
theorem tzero_145 : tzero Go.Proofs.Tryz.prog 145 = some .nilFunc := by kernel_rfl
theorem tconc_146 : tconc Go.Proofs.Tryz.prog 146 = true := by kernel_rfl
theorem meth_146_continuo_effect_resume : methB Go.Proofs.Tryz.prog 146 "continuo/effect.resume" = some 185 := by kernel_rfl
theorem meth_146_continuo_effect_state : methB Go.Proofs.Tryz.prog 146 "continuo/effect.state" = some 186 := by kernel_rfl
theorem meth_146_continuo_effect_step : methB Go.Proofs.Tryz.prog 146 "continuo/effect.step" = some 187 := by kernel_rfl
theorem tok_148 : tok Go.Proofs.Tryz.prog 148 = true := by kernel_rfl
theorem tsz_148 : tsz Go.Proofs.Tryz.prog 148 = 1 := by kernel_rfl
theorem tagg_148 : tagg Go.Proofs.Tryz.prog 148 = true := by kernel_rfl
theorem tzero_148 : tzero Go.Proofs.Tryz.prog 148 = some (.agg #[.int .i64 0]) := by kernel_rfl
theorem tfld_148_0 : tfld Go.Proofs.Tryz.prog 148 0 = some (3, 0) := by kernel_rfl
theorem fldA_148_0 : fldA Go.Proofs.Tryz.prog 148 0 = some 0 := by kernel_rfl
theorem tok_149 : tok Go.Proofs.Tryz.prog 149 = true := by kernel_rfl
theorem tsz_149 : tsz Go.Proofs.Tryz.prog 149 = 1 := by kernel_rfl
theorem tagg_149 : tagg Go.Proofs.Tryz.prog 149 = false := by kernel_rfl
theorem tconc_150 : tconc Go.Proofs.Tryz.prog 150 = true := by kernel_rfl
theorem meth_150_continuo_effect_resume : methB Go.Proofs.Tryz.prog 150 "continuo/effect.resume" = some 188 := by kernel_rfl
theorem meth_150_continuo_effect_state : methB Go.Proofs.Tryz.prog 150 "continuo/effect.state" = some 189 := by kernel_rfl
theorem meth_150_continuo_effect_step : methB Go.Proofs.Tryz.prog 150 "continuo/effect.step" = some 190 := by kernel_rfl
theorem tok_153 : tok Go.Proofs.Tryz.prog 153 = true := by kernel_rfl
theorem tsz_153 : tsz Go.Proofs.Tryz.prog 153 = 2 := by kernel_rfl
theorem tagg_153 : tagg Go.Proofs.Tryz.prog 153 = true := by kernel_rfl
theorem tzero_153 : tzero Go.Proofs.Tryz.prog 153 = some (.agg #[.slice none 0 0, .int .i64 0]) := by kernel_rfl
theorem tfld_153_0 : tfld Go.Proofs.Tryz.prog 153 0 = some (103, 0) := by kernel_rfl
theorem fldA_153_0 : fldA Go.Proofs.Tryz.prog 153 0 = some 0 := by kernel_rfl
theorem tconc_154 : tconc Go.Proofs.Tryz.prog 154 = true := by kernel_rfl
theorem meth_154_continuo_effect_resume : methB Go.Proofs.Tryz.prog 154 "continuo/effect.resume" = some 191 := by kernel_rfl
theorem meth_154_continuo_effect_state : methB Go.Proofs.Tryz.prog 154 "continuo/effect.state" = some 192 := by kernel_rfl
theorem meth_154_continuo_effect_step : methB Go.Proofs.Tryz.prog 154 "continuo/effect.step" = some 193 := by kernel_rfl
theorem tok_156 : tok Go.Proofs.Tryz.prog 156 = true := by kernel_rfl
theorem tsz_156 : tsz Go.Proofs.Tryz.prog 156 = 3 := by kernel_rfl
theorem tagg_156 : tagg Go.Proofs.Tryz.prog 156 = true := by kernel_rfl
theorem tzero_156 : tzero Go.Proofs.Tryz.prog 156 = some (.agg #[.slice none 0 0, .int .i64 0, .int .i64 0]) := by kernel_rfl
theorem tfld_156_0 : tfld Go.Proofs.Tryz.prog 156 0 = some (103, 0) := by kernel_rfl
theorem fldA_156_0 : fldA Go.Proofs.Tryz.prog 156 0 = some 0 := by kernel_rfl
theorem tfld_156_1 : tfld Go.Proofs.Tryz.prog 156 1 = some (3, 2) := by kernel_rfl
theorem fldA_156_1 : fldA Go.Proofs.Tryz.prog 156 1 = some 2 := by kernel_rfl
theorem tconc_157 : tconc Go.Proofs.Tryz.prog 157 = true := by kernel_rfl
theorem meth_157_continuo_effect_resume : methB Go.Proofs.Tryz.prog 157 "continuo/effect.resume" = some 194 := by kernel_rfl
theorem meth_157_continuo_effect_state : methB Go.Proofs.Tryz.prog 157 "continuo/effect.state" = some 195 := by kernel_rfl
theorem meth_157_continuo_effect_step : methB Go.Proofs.Tryz.prog 157 "continuo/effect.step" = some 196 := by kernel_rfl
theorem tok_160 : tok Go.Proofs.Tryz.prog 160 = true := by kernel_rfl
theorem tsz_160 : tsz Go.Proofs.Tryz.prog 160 = 3 := by kernel_rfl
theorem tagg_160 : tagg Go.Proofs.Tryz.prog 160 = true := by kernel_rfl
theorem tzero_160 : tzero Go.Proofs.Tryz.prog 160 = some (.agg #[.slice none 0 0, .int .i64 0, .slice none 0 0]) := by kernel_rfl
theorem tfld_160_0 : tfld Go.Proofs.Tryz.prog 160 0 = some (103, 0) := by kernel_rfl
theorem fldA_160_0 : fldA Go.Proofs.Tryz.prog 160 0 = some 0 := by kernel_rfl
theorem tfld_160_1 : tfld Go.Proofs.Tryz.prog 160 1 = some (22, 2) := by kernel_rfl
theorem fldA_160_1 : fldA Go.Proofs.Tryz.prog 160 1 = some 2 := by kernel_rfl
theorem tconc_161 : tconc Go.Proofs.Tryz.prog 161 = true := by kernel_rfl
theorem meth_161_continuo_effect_resume : methB Go.Proofs.Tryz.prog 161 "continuo/effect.resume" = some 197 := by kernel_rfl
theorem meth_161_continuo_effect_state : methB Go.Proofs.Tryz.prog 161 "continuo/effect.state" = some 198 := by kernel_rfl
theorem meth_161_continuo_effect_step : methB Go.Proofs.Tryz.prog 161 "continuo/effect.step" = some 199 := by kernel_rfl
theorem tok_163 : tok Go.Proofs.Tryz.prog 163 = true := by kernel_rfl
theorem tsz_163 : tsz Go.Proofs.Tryz.prog 163 = 3 := by kernel_rfl
theorem tagg_163 : tagg Go.Proofs.Tryz.prog 163 = true := by kernel_rfl
theorem tzero_163 : tzero Go.Proofs.Tryz.prog 163 = some (.agg #[.int .i64 0, .int .i64 0, .int .i64 0]) := by kernel_rfl
theorem tfld_163_0 : tfld Go.Proofs.Tryz.prog 163 0 = some (3, 0) := by kernel_rfl
theorem fldA_163_0 : fldA Go.Proofs.Tryz.prog 163 0 = some 0 := by kernel_rfl
theorem tfld_163_1 : tfld Go.Proofs.Tryz.prog 163 1 = some (3, 1) := by kernel_rfl
theorem fldA_163_1 : fldA Go.Proofs.Tryz.prog 163 1 = some 1 := by kernel_rfl
theorem tfld_163_2 : tfld Go.Proofs.Tryz.prog 163 2 = some (3, 2) := by kernel_rfl
theorem fldA_163_2 : fldA Go.Proofs.Tryz.prog 163 2 = some 2 := by kernel_rfl
theorem tok_164 : tok Go.Proofs.Tryz.prog 164 = true := by kernel_rfl
theorem tsz_164 : tsz Go.Proofs.Tryz.prog 164 = 8 := by kernel_rfl
theorem tagg_164 : tagg Go.Proofs.Tryz.prog 164 = true := by kernel_rfl
theorem tzero_164 : tzero Go.Proofs.Tryz.prog 164 = some (.agg #[.nilFunc, .nilFunc, .nilFunc, .nilFunc, .nilFunc, .nilFunc, .nilFunc, .nilFunc]) := by kernel_rfl
theorem tarr_164 : tarr Go.Proofs.Tryz.prog 164 = some (8, 149) := by kernel_rfl
theorem tok_174 : tok Go.Proofs.Tryz.prog 174 = true := by kernel_rfl
theorem tsz_174 : tsz Go.Proofs.Tryz.prog 174 = 8 := by kernel_rfl
theorem tagg_174 : tagg Go.Proofs.Tryz.prog 174 = true := by kernel_rfl
theorem tzero_174 : tzero Go.Proofs.Tryz.prog 174 = some (.agg #[.slice none 0 0, .slice none 0 0, .slice none 0 0, .slice none 0 0, .slice none 0 0, .slice none 0 0, .slice none 0 0, .slice none 0 0]) := by kernel_rfl
theorem tarr_174 : tarr Go.Proofs.Tryz.prog 174 = some (8, 132) := by kernel_rfl
theorem tok_178 : tok Go.Proofs.Tryz.prog 178 = true := by kernel_rfl
theorem tsz_178 : tsz Go.Proofs.Tryz.prog 178 = 1 := by kernel_rfl
theorem tagg_178 : tagg Go.Proofs.Tryz.prog 178 = false := by kernel_rfl
theorem tifc_178 : tifc Go.Proofs.Tryz.prog 178 = true := by kernel_rfl
theorem okF_7 : okF Go.Proofs.Tryz.prog 7 = true := by kernel_rfl
theorem okF_8 : okF Go.Proofs.Tryz.prog 8 = true := by kernel_rfl
theorem okF_9 : okF Go.Proofs.Tryz.prog 9 = true := by kernel_rfl
theorem okF_10 : okF Go.Proofs.Tryz.prog 10 = true := by kernel_rfl
theorem okF_11 : okF Go.Proofs.Tryz.prog 11 = true := by kernel_rfl
theorem okF_12 : okF Go.Proofs.Tryz.prog 12 = true := by kernel_rfl
theorem okF_13 : okF Go.Proofs.Tryz.prog 13 = true := by kernel_rfl
theorem okF_14 : okF Go.Proofs.Tryz.prog 14 = true := by kernel_rfl
theorem okF_15 : okF Go.Proofs.Tryz.prog 15 = true := by kernel_rfl
theorem okF_16 : okF Go.Proofs.Tryz.prog 16 = true := by kernel_rfl
theorem okF_17 : okF Go.Proofs.Tryz.prog 17 = true := by kernel_rfl
theorem okF_18 : okF Go.Proofs.Tryz.prog 18 = true := by kernel_rfl
theorem okF_35 : okF Go.Proofs.Tryz.prog 35 = true := by kernel_rfl
theorem okF_36 : okF Go.Proofs.Tryz.prog 36 = true := by kernel_rfl
theorem okF_37 : okF Go.Proofs.Tryz.prog 37 = true := by kernel_rfl
theorem okF_38 : okF Go.Proofs.Tryz.prog 38 = true := by kernel_rfl
theorem okF_40 : okF Go.Proofs.Tryz.prog 40 = true := by kernel_rfl
theorem okF_41 : okF Go.Proofs.Tryz.prog 41 = true := by kernel_rfl
theorem okF_42 : okF Go.Proofs.Tryz.prog 42 = true := by kernel_rfl
theorem okF_43 : okF Go.Proofs.Tryz.prog 43 = true := by kernel_rfl
theorem okF_44 : okF Go.Proofs.Tryz.prog 44 = true := by kernel_rfl
theorem okF_45 : okF Go.Proofs.Tryz.prog 45 = true := by kernel_rfl
theorem okF_46 : okF Go.Proofs.Tryz.prog 46 = true := by kernel_rfl
theorem okF_47 : okF Go.Proofs.Tryz.prog 47 = true := by kernel_rfl
theorem okF_48 : okF Go.Proofs.Tryz.prog 48 = true := by kernel_rfl
theorem okF_53 : okF Go.Proofs.Tryz.prog 53 = true := by kernel_rfl
theorem okF_57 : okF Go.Proofs.Tryz.prog 57 = true := by kernel_rfl
theorem okF_58 : okF Go.Proofs.Tryz.prog 58 = true := by kernel_rfl
theorem okF_59 : okF Go.Proofs.Tryz.prog 59 = true := by kernel_rfl
theorem okF_61 : okF Go.Proofs.Tryz.prog 61 = true := by kernel_rfl
theorem okF_62 : okF Go.Proofs.Tryz.prog 62 = true := by kernel_rfl
theorem okF_63 : okF Go.Proofs.Tryz.prog 63 = true := by kernel_rfl
theorem okF_64 : okF Go.Proofs.Tryz.prog 64 = true := by kernel_rfl
theorem okF_65 : okF Go.Proofs.Tryz.prog 65 = true := by kernel_rfl
theorem okF_66 : okF Go.Proofs.Tryz.prog 66 = true := by kernel_rfl
theorem okF_70 : okF Go.Proofs.Tryz.prog 70 = true := by kernel_rfl
theorem okF_71 : okF Go.Proofs.Tryz.prog 71 = true := by kernel_rfl
theorem okF_72 : okF Go.Proofs.Tryz.prog 72 = true := by kernel_rfl
theorem okF_73 : okF Go.Proofs.Tryz.prog 73 = true := by kernel_rfl
theorem okF_74 : okF Go.Proofs.Tryz.prog 74 = true := by kernel_rfl
theorem okF_75 : okF Go.Proofs.Tryz.prog 75 = true := by kernel_rfl
theorem okF_76 : okF Go.Proofs.Tryz.prog 76 = true := by kernel_rfl
theorem okF_77 : okF Go.Proofs.Tryz.prog 77 = true := by kernel_rfl
theorem okF_78 : okF Go.Proofs.Tryz.prog 78 = true := by kernel_rfl
theorem okF_79 : okF Go.Proofs.Tryz.prog 79 = true := by kernel_rfl
theorem okF_80 : okF Go.Proofs.Tryz.prog 80 = true := by kernel_rfl
theorem okF_81 : okF Go.Proofs.Tryz.prog 81 = true := by kernel_rfl
theorem okF_82 : okF Go.Proofs.Tryz.prog 82 = true := by kernel_rfl
theorem okF_83 : okF Go.Proofs.Tryz.prog 83 = true := by kernel_rfl
theorem okF_84 : okF Go.Proofs.Tryz.prog 84 = true := by kernel_rfl
theorem okF_85 : okF Go.Proofs.Tryz.prog 85 = true := by kernel_rfl
theorem okF_86 : okF Go.Proofs.Tryz.prog 86 = true := by kernel_rfl
theorem okF_87 : okF Go.Proofs.Tryz.prog 87 = true := by kernel_rfl
theorem okF_88 : okF Go.Proofs.Tryz.prog 88 = true := by kernel_rfl
theorem okF_89 : okF Go.Proofs.Tryz.prog 89 = true := by kernel_rfl
theorem okF_90 : okF Go.Proofs.Tryz.prog 90 = true := by kernel_rfl
theorem okF_91 : okF Go.Proofs.Tryz.prog 91 = true := by kernel_rfl
theorem okF_92 : okF Go.Proofs.Tryz.prog 92 = true := by kernel_rfl
theorem okF_93 : okF Go.Proofs.Tryz.prog 93 = true := by kernel_rfl
theorem okF_94 : okF Go.Proofs.Tryz.prog 94 = true := by kernel_rfl
theorem okF_95 : okF Go.Proofs.Tryz.prog 95 = true := by kernel_rfl
theorem okF_100 : okF Go.Proofs.Tryz.prog 100 = true := by kernel_rfl
theorem okF_101 : okF Go.Proofs.Tryz.prog 101 = true := by kernel_rfl
theorem okF_102 : okF Go.Proofs.Tryz.prog 102 = true := by kernel_rfl
theorem okF_103 : okF Go.Proofs.Tryz.prog 103 = true := by kernel_rfl
theorem okF_104 : okF Go.Proofs.Tryz.prog 104 = true := by kernel_rfl
theorem okF_105 : okF Go.Proofs.Tryz.prog 105 = true := by kernel_rfl
theorem okF_106 : okF Go.Proofs.Tryz.prog 106 = true := by kernel_rfl
theorem okF_107 : okF Go.Proofs.Tryz.prog 107 = true := by kernel_rfl
theorem okF_111 : okF Go.Proofs.Tryz.prog 111 = true := by kernel_rfl
theorem okF_112 : okF Go.Proofs.Tryz.prog 112 = true := by kernel_rfl
theorem okF_113 : okF Go.Proofs.Tryz.prog 113 = true := by kernel_rfl
theorem okF_115 : okF Go.Proofs.Tryz.prog 115 = true := by kernel_rfl
theorem okF_177 : okF Go.Proofs.Tryz.prog 177 = true := by kernel_rfl
theorem okF_178 : okF Go.Proofs.Tryz.prog 178 = true := by kernel_rfl
theorem okF_179 : okF Go.Proofs.Tryz.prog 179 = true := by kernel_rfl
theorem okF_180 : okF Go.Proofs.Tryz.prog 180 = true := by kernel_rfl
theorem okF_181 : okF Go.Proofs.Tryz.prog 181 = true := by kernel_rfl
theorem okF_182 : okF Go.Proofs.Tryz.prog 182 = true := by kernel_rfl
theorem okF_183 : okF Go.Proofs.Tryz.prog 183 = true := by kernel_rfl
theorem okF_184 : okF Go.Proofs.Tryz.prog 184 = true := by kernel_rfl
theorem okF_185 : okF Go.Proofs.Tryz.prog 185 = true := by kernel_rfl
theorem okF_186 : okF Go.Proofs.Tryz.prog 186 = true := by kernel_rfl
theorem okF_187 : okF Go.Proofs.Tryz.prog 187 = true := by kernel_rfl
theorem okF_188 : okF Go.Proofs.Tryz.prog 188 = true := by kernel_rfl
theorem okF_189 : okF Go.Proofs.Tryz.prog 189 = true := by kernel_rfl
theorem okF_190 : okF Go.Proofs.Tryz.prog 190 = true := by kernel_rfl
theorem okF_191 : okF Go.Proofs.Tryz.prog 191 = true := by kernel_rfl
theorem okF_192 : okF Go.Proofs.Tryz.prog 192 = true := by kernel_rfl
theorem okF_193 : okF Go.Proofs.Tryz.prog 193 = true := by kernel_rfl
theorem okF_194 : okF Go.Proofs.Tryz.prog 194 = true := by kernel_rfl
theorem okF_195 : okF Go.Proofs.Tryz.prog 195 = true := by kernel_rfl
theorem okF_196 : okF Go.Proofs.Tryz.prog 196 = true := by kernel_rfl
theorem okF_197 : okF Go.Proofs.Tryz.prog 197 = true := by kernel_rfl
theorem okF_198 : okF Go.Proofs.Tryz.prog 198 = true := by kernel_rfl
theorem okF_199 : okF Go.Proofs.Tryz.prog 199 = true := by kernel_rfl
end Go.Proofs.YtefcfnmmpnjjjaaGreatDoor
