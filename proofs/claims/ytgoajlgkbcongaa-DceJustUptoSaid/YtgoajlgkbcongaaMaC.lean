/- The abstract machine, third part: the type table, the rules in use, loops, maps, by-reference calls. -/
import Derived.Test.YtgoajlgkbcongaaMaB
import Derived.Test.YtgoajlgkbcongaaRows
import Derived.IntWalk
import Derived.MapKept
import Derived.Lib.SliceRun
section
set_option linter.unusedVariables false
namespace Go.Proofs.Ytgoajlgkbcongaa.Vm
open Go Go.RowKit Go.Proofs
theorem f_shp2 : shp Try.prog 2 = some none := by kernel_rfl
theorem f_tsz2 : tsz Try.prog 2 = some 1 := by kernel_rfl
theorem f_zer2 : zer Try.prog 2 = some [.int .i64 0] := by kernel_rfl
theorem f_one2 : oneCells Try.prog 2 = true := by kernel_rfl
theorem f_shp3 : shp Try.prog 3 = some none := by kernel_rfl
theorem f_tsz3 : tsz Try.prog 3 = some 1 := by kernel_rfl
theorem f_zer3 : zer Try.prog 3 = some [.int .i64 0] := by kernel_rfl
theorem f_one3 : oneCells Try.prog 3 = true := by kernel_rfl
theorem f_shp4 : shp Try.prog 4 = some none := by kernel_rfl
theorem f_tsz4 : tsz Try.prog 4 = some 1 := by kernel_rfl
theorem f_zer4 : zer Try.prog 4 = some [.bool false] := by kernel_rfl
theorem f_one4 : oneCells Try.prog 4 = true := by kernel_rfl
theorem f_shp5 : shp Try.prog 5 = some none := by kernel_rfl
theorem f_tsz5 : tsz Try.prog 5 = some 1 := by kernel_rfl
theorem f_zer5 : zer Try.prog 5 = some [.int .u8 0] := by kernel_rfl
theorem f_one5 : oneCells Try.prog 5 = true := by kernel_rfl
theorem f_shp9 : shp Try.prog 9 = some none := by kernel_rfl
theorem f_tsz9 : tsz Try.prog 9 = some 1 := by kernel_rfl
theorem f_zer9 : zer Try.prog 9 = some [.str ByteArray.empty] := by kernel_rfl
theorem f_one9 : oneCells Try.prog 9 = true := by kernel_rfl
theorem f_shp22 : shp Try.prog 22 = some none := by kernel_rfl
theorem f_tsz22 : tsz Try.prog 22 = some 1 := by kernel_rfl
theorem f_zer22 : zer Try.prog 22 = some [.nil] := by kernel_rfl
theorem f_one22 : oneCells Try.prog 22 = true := by kernel_rfl
theorem f_shp23 : shp Try.prog 23 = some none := by kernel_rfl
theorem f_tsz23 : tsz Try.prog 23 = some 1 := by kernel_rfl
theorem f_zer23 : zer Try.prog 23 = some [.nil] := by kernel_rfl
theorem f_one23 : oneCells Try.prog 23 = true := by kernel_rfl
theorem f_shp25 : shp Try.prog 25 = some (some 3) := by kernel_rfl
theorem f_tsz25 : tsz Try.prog 25 = some 3 := by kernel_rfl
theorem f_zer25 : zer Try.prog 25 = some [.nil, .int .i64 0, .nil] := by kernel_rfl
theorem f_one25 : oneCells Try.prog 25 = true := by kernel_rfl
theorem f_fld25_0 : fldOff Try.prog 25 0 = some 0 := by kernel_rfl
theorem f_fld25_1 : fldOff Try.prog 25 1 = some 1 := by kernel_rfl
theorem f_fld25_2 : fldOff Try.prog 25 2 = some 2 := by kernel_rfl
theorem f_bplc25 : bplc Try.prog 25 = some [(0, 1), (1, 1), (2, 1)] := by kernel_rfl
theorem f_shp26 : shp Try.prog 26 = some none := by kernel_rfl
theorem f_tsz26 : tsz Try.prog 26 = some 1 := by kernel_rfl
theorem f_zer26 : zer Try.prog 26 = some [.nil] := by kernel_rfl
theorem f_one26 : oneCells Try.prog 26 = true := by kernel_rfl
theorem f_shp34 : shp Try.prog 34 = some none := by kernel_rfl
theorem f_tsz34 : tsz Try.prog 34 = some 1 := by kernel_rfl
theorem f_zer34 : zer Try.prog 34 = some [.nil] := by kernel_rfl
theorem f_one34 : oneCells Try.prog 34 = true := by kernel_rfl
theorem f_shp35 : shp Try.prog 35 = some none := by kernel_rfl
theorem f_tsz35 : tsz Try.prog 35 = some 1 := by kernel_rfl
theorem f_zer35 : zer Try.prog 35 = some [.nil] := by kernel_rfl
theorem f_one35 : oneCells Try.prog 35 = true := by kernel_rfl
theorem f_shp37 : shp Try.prog 37 = some (some 6) := by kernel_rfl
theorem f_tsz37 : tsz Try.prog 37 = some 6 := by kernel_rfl
theorem f_zer37 : zer Try.prog 37 = some [.str ByteArray.empty, .int .i64 0, .bool false, .nil, .nil, .int .i64 0] := by kernel_rfl
theorem f_one37 : oneCells Try.prog 37 = true := by kernel_rfl
theorem f_fld37_0 : fldOff Try.prog 37 0 = some 0 := by kernel_rfl
theorem f_fld37_1 : fldOff Try.prog 37 1 = some 1 := by kernel_rfl
theorem f_fld37_2 : fldOff Try.prog 37 2 = some 2 := by kernel_rfl
theorem f_fld37_3 : fldOff Try.prog 37 3 = some 3 := by kernel_rfl
theorem f_fld37_4 : fldOff Try.prog 37 4 = some 4 := by kernel_rfl
theorem f_fld37_5 : fldOff Try.prog 37 5 = some 5 := by kernel_rfl
theorem f_bplc37 : bplc Try.prog 37 = some [(0, 1), (1, 1), (2, 1), (3, 1), (4, 1), (5, 1)] := by kernel_rfl
theorem f_shp38 : shp Try.prog 38 = some none := by kernel_rfl
theorem f_tsz38 : tsz Try.prog 38 = some 1 := by kernel_rfl
theorem f_zer38 : zer Try.prog 38 = some [.nil] := by kernel_rfl
theorem f_one38 : oneCells Try.prog 38 = true := by kernel_rfl
theorem f_shp40 : shp Try.prog 40 = some none := by kernel_rfl
theorem f_tsz40 : tsz Try.prog 40 = some 1 := by kernel_rfl
theorem f_zer40 : zer Try.prog 40 = some [.nil] := by kernel_rfl
theorem f_one40 : oneCells Try.prog 40 = true := by kernel_rfl
theorem f_shp42 : shp Try.prog 42 = some (some 4) := by kernel_rfl
theorem f_tsz42 : tsz Try.prog 42 = some 4 := by kernel_rfl
theorem f_zer42 : zer Try.prog 42 = some [.int .u8 0, .int .i64 0, .int .i64 0, .int .i64 0] := by kernel_rfl
theorem f_one42 : oneCells Try.prog 42 = true := by kernel_rfl
theorem f_fld42_0 : fldOff Try.prog 42 0 = some 0 := by kernel_rfl
theorem f_fld42_1 : fldOff Try.prog 42 1 = some 1 := by kernel_rfl
theorem f_fld42_2 : fldOff Try.prog 42 2 = some 2 := by kernel_rfl
theorem f_fld42_3 : fldOff Try.prog 42 3 = some 3 := by kernel_rfl
theorem f_bplc42 : bplc Try.prog 42 = some [(0, 1), (1, 1), (2, 1), (3, 1)] := by kernel_rfl
theorem f_shp44 : shp Try.prog 44 = some (some 5) := by kernel_rfl
theorem f_tsz44 : tsz Try.prog 44 = some 5 := by kernel_rfl
theorem f_zer44 : zer Try.prog 44 = some [.nil, .int .u8 0, .int .i64 0, .int .i64 0, .int .i64 0] := by kernel_rfl
theorem f_one44 : oneCells Try.prog 44 = true := by kernel_rfl
theorem f_fld44_0 : fldOff Try.prog 44 0 = some 0 := by kernel_rfl
theorem f_fld44_1 : fldOff Try.prog 44 1 = some 1 := by kernel_rfl
theorem f_bplc44 : bplc Try.prog 44 = some [(0, 1), (1, 4)] := by kernel_rfl
theorem f_shp45 : shp Try.prog 45 = some none := by kernel_rfl
theorem f_tsz45 : tsz Try.prog 45 = some 1 := by kernel_rfl
theorem f_zer45 : zer Try.prog 45 = some [.nil] := by kernel_rfl
theorem f_one45 : oneCells Try.prog 45 = true := by kernel_rfl
theorem f_shp47 : shp Try.prog 47 = some (some 7) := by kernel_rfl
theorem f_tsz47 : tsz Try.prog 47 = some 7 := by kernel_rfl
theorem f_zer47 : zer Try.prog 47 = some [.int .u8 0, .int .i64 0, .int .i64 0, .int .i64 0, .int .i64 0, .int .i64 0, .nil] := by kernel_rfl
theorem f_one47 : oneCells Try.prog 47 = true := by kernel_rfl
theorem f_fld47_0 : fldOff Try.prog 47 0 = some 0 := by kernel_rfl
theorem f_fld47_1 : fldOff Try.prog 47 1 = some 1 := by kernel_rfl
theorem f_fld47_2 : fldOff Try.prog 47 2 = some 2 := by kernel_rfl
theorem f_fld47_3 : fldOff Try.prog 47 3 = some 3 := by kernel_rfl
theorem f_fld47_4 : fldOff Try.prog 47 4 = some 4 := by kernel_rfl
theorem f_fld47_5 : fldOff Try.prog 47 5 = some 5 := by kernel_rfl
theorem f_fld47_6 : fldOff Try.prog 47 6 = some 6 := by kernel_rfl
theorem f_bplc47 : bplc Try.prog 47 = some [(0, 1), (1, 1), (2, 1), (3, 1), (4, 1), (5, 1), (6, 1)] := by kernel_rfl
theorem f_shp57 : shp Try.prog 57 = some (some 3) := by kernel_rfl
theorem f_tsz57 : tsz Try.prog 57 = some 3 := by kernel_rfl
theorem f_zer57 : zer Try.prog 57 = some [.int .u8 0, .int .i64 0, .str ByteArray.empty] := by kernel_rfl
theorem f_one57 : oneCells Try.prog 57 = true := by kernel_rfl
theorem f_fld57_0 : fldOff Try.prog 57 0 = some 0 := by kernel_rfl
theorem f_fld57_1 : fldOff Try.prog 57 1 = some 1 := by kernel_rfl
theorem f_fld57_2 : fldOff Try.prog 57 2 = some 2 := by kernel_rfl
theorem f_bplc57 : bplc Try.prog 57 = some [(0, 1), (1, 1), (2, 1)] := by kernel_rfl
theorem f_shp58 : shp Try.prog 58 = some none := by kernel_rfl
theorem f_tsz58 : tsz Try.prog 58 = some 1 := by kernel_rfl
theorem f_zer58 : zer Try.prog 58 = some [.nil] := by kernel_rfl
theorem f_one58 : oneCells Try.prog 58 = true := by kernel_rfl
theorem f_shp60 : shp Try.prog 60 = some (some 6) := by kernel_rfl
theorem f_tsz60 : tsz Try.prog 60 = some 6 := by kernel_rfl
theorem f_zer60 : zer Try.prog 60 = some [.str ByteArray.empty, .int .u8 0, .int .i64 0, .str ByteArray.empty, .int .i64 0, .nil] := by kernel_rfl
theorem f_one60 : oneCells Try.prog 60 = true := by kernel_rfl
theorem f_fld60_0 : fldOff Try.prog 60 0 = some 0 := by kernel_rfl
theorem f_fld60_1 : fldOff Try.prog 60 1 = some 1 := by kernel_rfl
theorem f_fld60_2 : fldOff Try.prog 60 2 = some 4 := by kernel_rfl
theorem f_fld60_3 : fldOff Try.prog 60 3 = some 5 := by kernel_rfl
theorem f_bplc60 : bplc Try.prog 60 = some [(0, 1), (1, 3), (4, 1), (5, 1)] := by kernel_rfl
theorem f_shp62 : shp Try.prog 62 = some (some 3) := by kernel_rfl
theorem f_tsz62 : tsz Try.prog 62 = some 3 := by kernel_rfl
theorem f_zer62 : zer Try.prog 62 = some [.int .i64 0, .int .i64 0, .nil] := by kernel_rfl
theorem f_one62 : oneCells Try.prog 62 = true := by kernel_rfl
theorem f_fld62_0 : fldOff Try.prog 62 0 = some 0 := by kernel_rfl
theorem f_fld62_1 : fldOff Try.prog 62 1 = some 1 := by kernel_rfl
theorem f_fld62_2 : fldOff Try.prog 62 2 = some 2 := by kernel_rfl
theorem f_bplc62 : bplc Try.prog 62 = some [(0, 1), (1, 1), (2, 1)] := by kernel_rfl
theorem f_shp67 : shp Try.prog 67 = some none := by kernel_rfl
theorem f_tsz67 : tsz Try.prog 67 = some 1 := by kernel_rfl
theorem f_zer67 : zer Try.prog 67 = some [.nil] := by kernel_rfl
theorem f_one67 : oneCells Try.prog 67 = true := by kernel_rfl
theorem f_shp69 : shp Try.prog 69 = some none := by kernel_rfl
theorem f_tsz69 : tsz Try.prog 69 = some 1 := by kernel_rfl
theorem f_zer69 : zer Try.prog 69 = some [.nil] := by kernel_rfl
theorem f_one69 : oneCells Try.prog 69 = true := by kernel_rfl
theorem f_shp72 : shp Try.prog 72 = some none := by kernel_rfl
theorem f_tsz72 : tsz Try.prog 72 = some 1 := by kernel_rfl
theorem f_zer72 : zer Try.prog 72 = some [.nil] := by kernel_rfl
theorem f_one72 : oneCells Try.prog 72 = true := by kernel_rfl
theorem f_shp74 : shp Try.prog 74 = some (some 5) := by kernel_rfl
theorem f_tsz74 : tsz Try.prog 74 = some 5 := by kernel_rfl
theorem f_zer74 : zer Try.prog 74 = some [.int .u8 0, .int .i64 0, .int .i64 0, .int .i64 0, .nil] := by kernel_rfl
theorem f_one74 : oneCells Try.prog 74 = true := by kernel_rfl
theorem f_fld74_0 : fldOff Try.prog 74 0 = some 0 := by kernel_rfl
theorem f_fld74_1 : fldOff Try.prog 74 1 = some 1 := by kernel_rfl
theorem f_fld74_2 : fldOff Try.prog 74 2 = some 2 := by kernel_rfl
theorem f_fld74_3 : fldOff Try.prog 74 3 = some 3 := by kernel_rfl
theorem f_fld74_4 : fldOff Try.prog 74 4 = some 4 := by kernel_rfl
theorem f_bplc74 : bplc Try.prog 74 = some [(0, 1), (1, 1), (2, 1), (3, 1), (4, 1)] := by kernel_rfl
theorem f_shp104 : shp Try.prog 104 = some (some 9) := by kernel_rfl
theorem f_tsz104 : tsz Try.prog 104 = some 9 := by kernel_rfl
theorem f_zer104 : zer Try.prog 104 = some [.str ByteArray.empty, .int .i64 0, .bool false, .nil, .nil, .int .i64 0, .nil, .nil, .bool false] := by kernel_rfl
theorem f_one104 : oneCells Try.prog 104 = true := by kernel_rfl
theorem f_fld104_0 : fldOff Try.prog 104 0 = some 0 := by kernel_rfl
theorem f_fld104_1 : fldOff Try.prog 104 1 = some 6 := by kernel_rfl
theorem f_fld104_2 : fldOff Try.prog 104 2 = some 7 := by kernel_rfl
theorem f_fld104_3 : fldOff Try.prog 104 3 = some 8 := by kernel_rfl
theorem f_bplc104 : bplc Try.prog 104 = some [(0, 6), (6, 1), (7, 1), (8, 1)] := by kernel_rfl
theorem f_shp110 : shp Try.prog 110 = some none := by kernel_rfl
theorem f_tsz110 : tsz Try.prog 110 = some 1 := by kernel_rfl
theorem f_zer110 : zer Try.prog 110 = some [.nil] := by kernel_rfl
theorem f_one110 : oneCells Try.prog 110 = true := by kernel_rfl
theorem f_shp112 : shp Try.prog 112 = some (some 11) := by kernel_rfl
theorem f_tsz112 : tsz Try.prog 112 = some 11 := by kernel_rfl
theorem f_zer112 : zer Try.prog 112 = some [.nil, .int .i64 0, .nil, .nil, .nil, .int .i64 0, .int .i64 0, .nil, .bool false, .bool false, .int .i64 0] := by kernel_rfl
theorem f_one112 : oneCells Try.prog 112 = true := by kernel_rfl
theorem f_fld112_0 : fldOff Try.prog 112 0 = some 0 := by kernel_rfl
theorem f_fld112_1 : fldOff Try.prog 112 1 = some 3 := by kernel_rfl
theorem f_fld112_2 : fldOff Try.prog 112 2 = some 4 := by kernel_rfl
theorem f_fld112_3 : fldOff Try.prog 112 3 = some 5 := by kernel_rfl
theorem f_fld112_4 : fldOff Try.prog 112 4 = some 6 := by kernel_rfl
theorem f_fld112_5 : fldOff Try.prog 112 5 = some 7 := by kernel_rfl
theorem f_fld112_6 : fldOff Try.prog 112 6 = some 8 := by kernel_rfl
theorem f_fld112_7 : fldOff Try.prog 112 7 = some 9 := by kernel_rfl
theorem f_fld112_8 : fldOff Try.prog 112 8 = some 10 := by kernel_rfl
theorem f_bplc112 : bplc Try.prog 112 = some [(0, 3), (3, 1), (4, 1), (5, 1), (6, 1), (7, 1), (8, 1), (9, 1), (10, 1)] := by kernel_rfl
theorem f_shp115 : shp Try.prog 115 = some none := by kernel_rfl
theorem f_tsz115 : tsz Try.prog 115 = some 1 := by kernel_rfl
theorem f_zer115 : zer Try.prog 115 = some [.undef] := by kernel_rfl
theorem f_one115 : oneCells Try.prog 115 = true := by kernel_rfl
theorem f_shp116 : shp Try.prog 116 = some none := by kernel_rfl
theorem f_tsz116 : tsz Try.prog 116 = some 1 := by kernel_rfl
theorem f_zer116 : zer Try.prog 116 = some [.undef] := by kernel_rfl
theorem f_one116 : oneCells Try.prog 116 = true := by kernel_rfl
theorem f_shp118 : shp Try.prog 118 = some (some 9) := by kernel_rfl
theorem f_tsz118 : tsz Try.prog 118 = some 9 := by kernel_rfl
theorem f_zer118 : zer Try.prog 118 = some [.str ByteArray.empty, .int .i64 0, .bool false, .nil, .nil, .int .i64 0, .nil, .undef, .nil] := by kernel_rfl
theorem f_one118 : oneCells Try.prog 118 = true := by kernel_rfl
theorem f_fld118_0 : fldOff Try.prog 118 0 = some 0 := by kernel_rfl
theorem f_fld118_1 : fldOff Try.prog 118 1 = some 6 := by kernel_rfl
theorem f_fld118_2 : fldOff Try.prog 118 2 = some 7 := by kernel_rfl
theorem f_fld118_3 : fldOff Try.prog 118 3 = some 8 := by kernel_rfl
theorem f_bplc118 : bplc Try.prog 118 = some [(0, 6), (6, 1), (7, 1), (8, 1)] := by kernel_rfl
theorem f_shp120 : shp Try.prog 120 = some none := by kernel_rfl
theorem f_tsz120 : tsz Try.prog 120 = some 1 := by kernel_rfl
theorem f_zer120 : zer Try.prog 120 = some [.undef] := by kernel_rfl
theorem f_one120 : oneCells Try.prog 120 = true := by kernel_rfl
theorem f_shp129 : shp Try.prog 129 = some (some 3) := by kernel_rfl
theorem f_tsz129 : tsz Try.prog 129 = some 3 := by kernel_rfl
theorem f_zer129 : zer Try.prog 129 = some [.int .i64 0, .int .i64 0, .bool false] := by kernel_rfl
theorem f_one129 : oneCells Try.prog 129 = true := by kernel_rfl
theorem f_fld129_0 : fldOff Try.prog 129 0 = some 0 := by kernel_rfl
theorem f_fld129_1 : fldOff Try.prog 129 1 = some 1 := by kernel_rfl
theorem f_fld129_2 : fldOff Try.prog 129 2 = some 2 := by kernel_rfl
theorem f_bplc129 : bplc Try.prog 129 = some [(0, 1), (1, 1), (2, 1)] := by kernel_rfl
theorem f_shp131 : shp Try.prog 131 = some none := by kernel_rfl
theorem f_tsz131 : tsz Try.prog 131 = some 1 := by kernel_rfl
theorem f_zer131 : zer Try.prog 131 = some [.undef] := by kernel_rfl
theorem f_one131 : oneCells Try.prog 131 = true := by kernel_rfl
theorem f_shp136 : shp Try.prog 136 = some none := by kernel_rfl
theorem f_tsz136 : tsz Try.prog 136 = some 1 := by kernel_rfl
theorem f_zer136 : zer Try.prog 136 = some [.undef] := by kernel_rfl
theorem f_one136 : oneCells Try.prog 136 = true := by kernel_rfl
theorem f_shp138 : shp Try.prog 138 = some (some 2) := by kernel_rfl
theorem f_tsz138 : tsz Try.prog 138 = some 2 := by kernel_rfl
theorem f_zer138 : zer Try.prog 138 = some [.int .i64 0, .undef] := by kernel_rfl
theorem f_one138 : oneCells Try.prog 138 = true := by kernel_rfl
theorem f_fld138_0 : fldOff Try.prog 138 0 = some 0 := by kernel_rfl
theorem f_fld138_1 : fldOff Try.prog 138 1 = some 1 := by kernel_rfl
theorem f_bplc138 : bplc Try.prog 138 = some [(0, 1), (1, 1)] := by kernel_rfl
theorem f_shp140 : shp Try.prog 140 = some none := by kernel_rfl
theorem f_tsz140 : tsz Try.prog 140 = some 1 := by kernel_rfl
theorem f_zer140 : zer Try.prog 140 = some [.nil] := by kernel_rfl
theorem f_one140 : oneCells Try.prog 140 = true := by kernel_rfl
theorem f_shp143 : shp Try.prog 143 = some none := by kernel_rfl
theorem f_tsz143 : tsz Try.prog 143 = some 1 := by kernel_rfl
theorem f_zer143 : zer Try.prog 143 = some [.nil] := by kernel_rfl
theorem f_one143 : oneCells Try.prog 143 = true := by kernel_rfl
theorem f_shp145 : shp Try.prog 145 = some (some 11) := by kernel_rfl
theorem f_tsz145 : tsz Try.prog 145 = some 11 := by kernel_rfl
theorem f_zer145 : zer Try.prog 145 = some [.int .i64 0, .str ByteArray.empty, .int .i64 0, .bool false, .nil, .nil, .int .i64 0, .nil, .nil, .nil, .nil] := by kernel_rfl
theorem f_one145 : oneCells Try.prog 145 = true := by kernel_rfl
theorem f_fld145_0 : fldOff Try.prog 145 0 = some 0 := by kernel_rfl
theorem f_fld145_1 : fldOff Try.prog 145 1 = some 1 := by kernel_rfl
theorem f_fld145_2 : fldOff Try.prog 145 2 = some 7 := by kernel_rfl
theorem f_fld145_3 : fldOff Try.prog 145 3 = some 8 := by kernel_rfl
theorem f_fld145_4 : fldOff Try.prog 145 4 = some 9 := by kernel_rfl
theorem f_fld145_5 : fldOff Try.prog 145 5 = some 10 := by kernel_rfl
theorem f_bplc145 : bplc Try.prog 145 = some [(0, 1), (1, 6), (7, 1), (8, 1), (9, 1), (10, 1)] := by kernel_rfl
theorem f_shp149 : shp Try.prog 149 = some (some 2) := by kernel_rfl
theorem f_tsz149 : tsz Try.prog 149 = some 2 := by kernel_rfl
theorem f_zer149 : zer Try.prog 149 = some [.nil, .nil] := by kernel_rfl
theorem f_one149 : oneCells Try.prog 149 = true := by kernel_rfl
theorem f_fld149_0 : fldOff Try.prog 149 0 = some 0 := by kernel_rfl
theorem f_fld149_1 : fldOff Try.prog 149 1 = some 1 := by kernel_rfl
theorem f_bplc149 : bplc Try.prog 149 = some [(0, 1), (1, 1)] := by kernel_rfl
theorem f_shp157 : shp Try.prog 157 = some (some 4) := by kernel_rfl
theorem f_tsz157 : tsz Try.prog 157 = some 4 := by kernel_rfl
theorem f_zer157 : zer Try.prog 157 = some [.int .u8 0, .int .i64 0, .int .i64 0, .int .i64 0] := by kernel_rfl
theorem f_one157 : oneCells Try.prog 157 = true := by kernel_rfl
theorem f_fld157_0 : fldOff Try.prog 157 0 = some 0 := by kernel_rfl
theorem f_fld157_1 : fldOff Try.prog 157 1 = some 1 := by kernel_rfl
theorem f_fld157_2 : fldOff Try.prog 157 2 = some 2 := by kernel_rfl
theorem f_fld157_3 : fldOff Try.prog 157 3 = some 3 := by kernel_rfl
theorem f_bplc157 : bplc Try.prog 157 = some [(0, 1), (1, 1), (2, 1), (3, 1)] := by kernel_rfl
theorem f_shp162 : shp Try.prog 162 = some (some 2) := by kernel_rfl
theorem f_tsz162 : tsz Try.prog 162 = some 2 := by kernel_rfl
theorem f_zer162 : zer Try.prog 162 = some [.int .i64 0, .int .i64 0] := by kernel_rfl
theorem f_one162 : oneCells Try.prog 162 = true := by kernel_rfl
theorem f_fld162_0 : fldOff Try.prog 162 0 = some 0 := by kernel_rfl
theorem f_fld162_1 : fldOff Try.prog 162 1 = some 1 := by kernel_rfl
theorem f_bplc162 : bplc Try.prog 162 = some [(0, 1), (1, 1)] := by kernel_rfl
theorem f_elsz22 : elsz Try.prog 22 = some 6 := by kernel_rfl
theorem f_ezer22 : ezer Try.prog 22 = some [.str ByteArray.empty, .int .i64 0, .bool false, .nil, .nil, .int .i64 0] := by kernel_rfl
theorem f_eone22 : eone Try.prog 22 = true := by kernel_rfl
theorem f_eby22 : eby Try.prog 22 = some 88 := by kernel_rfl
theorem f_app22 : appOK Try.prog 22 6 88 = true := by kernel_rfl
theorem f_elsz23 : elsz Try.prog 23 = some 3 := by kernel_rfl
theorem f_ezer23 : ezer Try.prog 23 = some [.int .i64 0, .int .i64 0, .nil] := by kernel_rfl
theorem f_eone23 : eone Try.prog 23 = true := by kernel_rfl
theorem f_eby23 : eby Try.prog 23 = some 40 := by kernel_rfl
theorem f_app23 : appOK Try.prog 23 3 40 = true := by kernel_rfl
theorem f_elsz26 : elsz Try.prog 26 = some 1 := by kernel_rfl
theorem f_ezer26 : ezer Try.prog 26 = some [.int .i64 0] := by kernel_rfl
theorem f_eone26 : eone Try.prog 26 = true := by kernel_rfl
theorem f_eby26 : eby Try.prog 26 = some 8 := by kernel_rfl
theorem f_app26 : appOK Try.prog 26 1 8 = true := by kernel_rfl
theorem f_zer1v26 : zer1v Try.prog 26 = some (.int .i64 0, 8) := by kernel_rfl
theorem f_elsz34 : elsz Try.prog 34 = some 6 := by kernel_rfl
theorem f_ezer34 : ezer Try.prog 34 = some [.str ByteArray.empty, .int .u8 0, .int .i64 0, .str ByteArray.empty, .int .i64 0, .nil] := by kernel_rfl
theorem f_eone34 : eone Try.prog 34 = true := by kernel_rfl
theorem f_eby34 : eby Try.prog 34 = some 80 := by kernel_rfl
theorem f_app34 : appOK Try.prog 34 6 80 = true := by kernel_rfl
theorem f_elsz35 : elsz Try.prog 35 = some 5 := by kernel_rfl
theorem f_ezer35 : ezer Try.prog 35 = some [.nil, .int .u8 0, .int .i64 0, .int .i64 0, .int .i64 0] := by kernel_rfl
theorem f_eone35 : eone Try.prog 35 = true := by kernel_rfl
theorem f_eby35 : eby Try.prog 35 = some 56 := by kernel_rfl
theorem f_app35 : appOK Try.prog 35 5 56 = true := by kernel_rfl
theorem f_elsz38 : elsz Try.prog 38 = some 1 := by kernel_rfl
theorem f_ezer38 : ezer Try.prog 38 = some [.bool false] := by kernel_rfl
theorem f_eone38 : eone Try.prog 38 = true := by kernel_rfl
theorem f_eby38 : eby Try.prog 38 = some 1 := by kernel_rfl
theorem f_app38 : appOK Try.prog 38 1 1 = true := by kernel_rfl
theorem f_zer1v38 : zer1v Try.prog 38 = some (.bool false, 1) := by kernel_rfl
theorem f_elsz40 : elsz Try.prog 40 = some 7 := by kernel_rfl
theorem f_ezer40 : ezer Try.prog 40 = some [.int .u8 0, .int .i64 0, .int .i64 0, .int .i64 0, .int .i64 0, .int .i64 0, .nil] := by kernel_rfl
theorem f_eone40 : eone Try.prog 40 = true := by kernel_rfl
theorem f_eby40 : eby Try.prog 40 = some 72 := by kernel_rfl
theorem f_app40 : appOK Try.prog 40 7 72 = true := by kernel_rfl
theorem f_elsz45 : elsz Try.prog 45 = some 1 := by kernel_rfl
theorem f_ezer45 : ezer Try.prog 45 = some [.int .i64 0] := by kernel_rfl
theorem f_eone45 : eone Try.prog 45 = true := by kernel_rfl
theorem f_eby45 : eby Try.prog 45 = some 8 := by kernel_rfl
theorem f_app45 : appOK Try.prog 45 1 8 = true := by kernel_rfl
theorem f_zer1v45 : zer1v Try.prog 45 = some (.int .i64 0, 8) := by kernel_rfl
theorem f_elsz51 : elsz Try.prog 51 = some 1 := by kernel_rfl
theorem f_ezer51 : ezer Try.prog 51 = some [.int .u8 0] := by kernel_rfl
theorem f_eone51 : eone Try.prog 51 = true := by kernel_rfl
theorem f_eby51 : eby Try.prog 51 = some 1 := by kernel_rfl
theorem f_app51 : appOK Try.prog 51 1 1 = true := by kernel_rfl
theorem f_zer1v51 : zer1v Try.prog 51 = some (.int .u8 0, 1) := by kernel_rfl
theorem f_elsz58 : elsz Try.prog 58 = some 1 := by kernel_rfl
theorem f_ezer58 : ezer Try.prog 58 = some [.str ByteArray.empty] := by kernel_rfl
theorem f_eone58 : eone Try.prog 58 = true := by kernel_rfl
theorem f_eby58 : eby Try.prog 58 = some 16 := by kernel_rfl
theorem f_app58 : appOK Try.prog 58 1 16 = true := by kernel_rfl
theorem f_zer1v58 : zer1v Try.prog 58 = some (.str ByteArray.empty, 16) := by kernel_rfl
theorem f_elsz67 : elsz Try.prog 67 = some 1 := by kernel_rfl
theorem f_ezer67 : ezer Try.prog 67 = some [.nil] := by kernel_rfl
theorem f_eone67 : eone Try.prog 67 = true := by kernel_rfl
theorem f_eby67 : eby Try.prog 67 = some 24 := by kernel_rfl
theorem f_app67 : appOK Try.prog 67 1 24 = true := by kernel_rfl
theorem f_zer1v67 : zer1v Try.prog 67 = some (.nil, 24) := by kernel_rfl
theorem f_elsz69 : elsz Try.prog 69 = some 5 := by kernel_rfl
theorem f_ezer69 : ezer Try.prog 69 = some [.int .u8 0, .int .i64 0, .int .i64 0, .int .i64 0, .nil] := by kernel_rfl
theorem f_eone69 : eone Try.prog 69 = true := by kernel_rfl
theorem f_eby69 : eby Try.prog 69 = some 56 := by kernel_rfl
theorem f_app69 : appOK Try.prog 69 5 56 = true := by kernel_rfl
theorem f_elsz72 : elsz Try.prog 72 = some 3 := by kernel_rfl
theorem f_ezer72 : ezer Try.prog 72 = some [.int .i64 0, .int .i64 0, .bool false] := by kernel_rfl
theorem f_eone72 : eone Try.prog 72 = true := by kernel_rfl
theorem f_eby72 : eby Try.prog 72 = some 24 := by kernel_rfl
theorem f_app72 : appOK Try.prog 72 3 24 = true := by kernel_rfl
theorem f_elsz92 : elsz Try.prog 92 = some 1 := by kernel_rfl
theorem f_ezer92 : ezer Try.prog 92 = some [.nil] := by kernel_rfl
theorem f_eone92 : eone Try.prog 92 = true := by kernel_rfl
theorem f_eby92 : eby Try.prog 92 = some 24 := by kernel_rfl
theorem f_app92 : appOK Try.prog 92 1 24 = true := by kernel_rfl
theorem f_zer1v92 : zer1v Try.prog 92 = some (.nil, 24) := by kernel_rfl
theorem f_elsz110 : elsz Try.prog 110 = some 1 := by kernel_rfl
theorem f_ezer110 : ezer Try.prog 110 = some [.nil] := by kernel_rfl
theorem f_eone110 : eone Try.prog 110 = true := by kernel_rfl
theorem f_eby110 : eby Try.prog 110 = some 24 := by kernel_rfl
theorem f_app110 : appOK Try.prog 110 1 24 = true := by kernel_rfl
theorem f_zer1v110 : zer1v Try.prog 110 = some (.nil, 24) := by kernel_rfl
theorem f_elsz140 : elsz Try.prog 140 = some 2 := by kernel_rfl
theorem f_ezer140 : ezer Try.prog 140 = some [.int .i64 0, .int .i64 0] := by kernel_rfl
theorem f_eone140 : eone Try.prog 140 = true := by kernel_rfl
theorem f_eby140 : eby Try.prog 140 = some 16 := by kernel_rfl
theorem f_app140 : appOK Try.prog 140 2 16 = true := by kernel_rfl
theorem f_elsz143 : elsz Try.prog 143 = some 1 := by kernel_rfl
theorem f_ezer143 : ezer Try.prog 143 = some [.nil] := by kernel_rfl
theorem f_eone143 : eone Try.prog 143 = true := by kernel_rfl
theorem f_eby143 : eby Try.prog 143 = some 24 := by kernel_rfl
theorem f_app143 : appOK Try.prog 143 1 24 = true := by kernel_rfl
theorem f_zer1v143 : zer1v Try.prog 143 = some (.nil, 24) := by kernel_rfl
theorem f_elsz153 : elsz Try.prog 153 = some 4 := by kernel_rfl
theorem f_ezer153 : ezer Try.prog 153 = some [.int .u8 0, .int .i64 0, .int .i64 0, .int .i64 0] := by kernel_rfl
theorem f_eone153 : eone Try.prog 153 = true := by kernel_rfl
theorem f_eby153 : eby Try.prog 153 = some 32 := by kernel_rfl
theorem f_app153 : appOK Try.prog 153 4 32 = true := by kernel_rfl
theorem f_eqty42 : eqTy Try.prog 42 = true := by kernel_rfl
theorem f_eqty57 : eqTy Try.prog 57 = true := by kernel_rfl
theorem f_eqty162 : eqTy Try.prog 162 = true := by kernel_rfl
theorem f_boolty : isBoolTy Try.prog 4 = true := by kernel_rfl
theorem f_intk5 : intk Try.prog 5 = some .u8 := by kernel_rfl
theorem f_und5 : (Try.prog.underlying 5).isSome = true := by kernel_rfl
theorem f_intk27 : intk Try.prog 27 = some .u16 := by kernel_rfl
theorem f_und27 : (Try.prog.underlying 27).isSome = true := by kernel_rfl
theorem f_intk2 : intk Try.prog 2 = some .i64 := by kernel_rfl
theorem f_und2 : (Try.prog.underlying 2).isSome = true := by kernel_rfl
theorem f_intk3 : intk Try.prog 3 = some .i64 := by kernel_rfl
theorem f_und3 : (Try.prog.underlying 3).isSome = true := by kernel_rfl
theorem f_mix : Try.prog.follows .mixedOrders = true := by kernel_rfl
end Go.Proofs.Ytgoajlgkbcongaa.Vm
end
section
set_option linter.unusedVariables false
set_option linter.unusedSimpArgs false
namespace Go.Proofs.Ytgoajlgkbcongaa.Vm
open Go Go.RowKit Go.Proofs
/-- The rest of a run is looked at when its turn comes. -/
@[congr] theorem bind_cg {α β : Type} {a a' : Option α} (f : α → Option β) (h : a = a') : a.bind f = a'.bind f := by rw [h]
@[congr] theorem map_cg {α β : Type} {a a' : Option α} (f : α → β) (h : a = a') : a.map f = a'.map f := by rw [h]
def selB {α : Type} (b : Bool) (x y : α) : α := match b with
  | false => x
  | true => y
def elimC {α : Type} (c : Option (FuncId × List Operand)) (x : FuncId × List Operand → α) (y : α) : α := match c with
  | some c => x c
  | none => y
@[congr] theorem selB_cg {α : Type} {b b' : Bool} (x y : α) (h : b = b') : selB b x y = selB b' x y := by rw [h]
@[congr] theorem elimC_cg {α : Type} {c c' : Option (FuncId × List Operand)} (x : FuncId × List Operand → α) (y : α) (h : c = c') : elimC c x y = elimC c' x y := by rw [h]
theorem selB_f {α : Type} (x y : α) : selB false x y = x := rfl
theorem selB_t {α : Type} (x y : α) : selB true x y = y := rfl
theorem elimC_s {α : Type} (c : FuncId × List Operand) (x : FuncId × List Operand → α) (y : α) : elimC (some c) x y = x c := rfl
theorem elimC_n {α : Type} (x : FuncId × List Operand → α) (y : α) : elimC none x y = y := rfl
def look : List (Nat × AV) → Nat → AV
  | [], _ => .undef
  | (u, v) :: l, t => if t = u then v else look l t
/-- A frame written out. -/
def Fr.of (l : List (Nat × AV)) (g n : Nat) : Fr := ⟨look l, g, n⟩
def Fr.hide (fr : Fr) (ds : List Nat) : Fr := ⟨fun t => if ds.contains t then .undef else fr.s t, fr.g, fr.n⟩
def seeF (base : Fr) (ds : List Nat) (vs : List AV) : List Nat → Fr
  | [] => base.hide ds
  | j :: S => (seeF base ds vs S).upd (ds.getD j 0) (vs.getD j .undef)
theorem s_of (l : List (Nat × AV)) (g n t : Nat) : (Fr.of l g n).s t = look l t := rfl
theorem g_of (l : List (Nat × AV)) (g n : Nat) : (Fr.of l g n).g = g := rfl
theorem n_of (l : List (Nat × AV)) (g n : Nat) : (Fr.of l g n).n = n := rfl
theorem look_nil (t : Nat) : look [] t = .undef := rfl
theorem look_cons (u t : Nat) (v : AV) (l : List (Nat × AV)) : look ((u, v) :: l) t = if t = u then v else look l t := rfl
theorem s_upd (fr : Fr) (t u : Nat) (v : AV) : (fr.upd t v).s u = if u = t then v else fr.s u := rfl
theorem g_upd (fr : Fr) (t : Nat) (v : AV) : (fr.upd t v).g = fr.g := rfl
theorem n_upd (fr : Fr) (t : Nat) (v : AV) : (fr.upd t v).n = fr.n := rfl
theorem s_fresh (fr : Fr) (k u : Nat) : (fr.fresh k).s u = fr.s u := rfl
theorem g_fresh (fr : Fr) (k : Nat) : (fr.fresh k).g = fr.g + k := rfl
theorem n_fresh (fr : Fr) (k : Nat) : (fr.fresh k).n = fr.n := rfl
theorem s_hide (fr : Fr) (ds : List Nat) (u : Nat) : (fr.hide ds).s u = if ds.contains u then .undef else fr.s u := rfl
theorem g_hide (fr : Fr) (ds : List Nat) : (fr.hide ds).g = fr.g := rfl
theorem n_hide (fr : Fr) (ds : List Nat) : (fr.hide ds).n = fr.n := rfl
theorem seeF_nil (base : Fr) (ds : List Nat) (vs : List AV) : seeF base ds vs [] = base.hide ds := rfl
theorem seeF_cons (base : Fr) (ds : List Nat) (vs : List AV) (j : Nat) (S : List Nat) : seeF base ds vs (j :: S) = (seeF base ds vs S).upd (ds.getD j 0) (vs.getD j .undef) := rfl
theorem start_of (args : List AV) (g n : Nat) : Fr.start args g n = Fr.of (args.zipIdx.map fun p => (p.2, p.1)) g n := by
  unfold Fr.start Fr.of
  simp only [Fr.mk.injEq, and_true]
  funext t
  have : ∀ (l : List AV) (k : Nat), look ((l.zipIdx k).map fun p => (p.2, p.1)) t = if k ≤ t then l.getD (t - k) .undef else .undef := by
    intro l
    induction l with
    | nil => intro k; simp [look]
    | cons v l ih =>
      intro k
      simp only [List.zipIdx_cons, List.map_cons, look, ih]
      by_cases e : t = k
      · subst e; simp
      · rw [if_neg e]
        by_cases h : k ≤ t
        · rw [if_pos h, if_pos (by omega), show t - k = (t - (k + 1)) + 1 by omega, List.getD_cons_succ]
        · rw [if_neg h, if_neg (by omega)]
  have := this args 0
  simp at this
  rw [this]
  simp
theorem ev_tmp (fr : Fr) (t : Nat) : fr.ev (.tmp t) = lend2 t (fr.s t) := rfl
theorem ev_const (fr : Fr) (v : Value) : fr.ev (.const v) = ofConst v := rfl
theorem ev_func (fr : Fr) (f : FuncId) : fr.ev (.func f) = .fn f := rfl
theorem dst_none (fr : Fr) (v : AV) : fr.dst none v = some fr := rfl
theorem dst_some (fr : Fr) (d : Nat) (v : AV) : fr.dst (some d) v = if d < fr.n then some (fr.upd d v) else none := rfl
theorem oc_int (k : IntKind) (n : Int) : ofConst (.int k n) = .int k n := rfl
theorem oc_bool (b : Bool) : ofConst (.bool b) = .bool b := rfl
theorem oc_str (s : ByteArray) : ofConst (.string s) = .str s := rfl
theorem oc_nil : ofConst (.slice none 0 0) = .nil := rfl
theorem l0_undef (p : Pl)  : lend0 p .undef = .undef := rfl
theorem l1_undef (t : Nat) (q : List (Nat × Nat))  : lend1 t q .undef = .undef := rfl
theorem l2_undef (t : Nat)  : lend2 t .undef = .undef := rfl
theorem l0_int (p : Pl) (k : IntKind) (n : Int) : lend0 p (.int k n) = (.int k n) := rfl
theorem l1_int (t : Nat) (q : List (Nat × Nat)) (k : IntKind) (n : Int) : lend1 t q (.int k n) = (.int k n) := rfl
theorem l2_int (t : Nat) (k : IntKind) (n : Int) : lend2 t (.int k n) = (.int k n) := rfl
theorem l0_bool (p : Pl) (b : Bool) : lend0 p (.bool b) = (.bool b) := rfl
theorem l1_bool (t : Nat) (q : List (Nat × Nat)) (b : Bool) : lend1 t q (.bool b) = (.bool b) := rfl
theorem l2_bool (t : Nat) (b : Bool) : lend2 t (.bool b) = (.bool b) := rfl
theorem l0_str (p : Pl) (x : ByteArray) : lend0 p (.str x) = (.str x) := rfl
theorem l1_str (t : Nat) (q : List (Nat × Nat)) (x : ByteArray) : lend1 t q (.str x) = (.str x) := rfl
theorem l2_str (t : Nat) (x : ByteArray) : lend2 t (.str x) = (.str x) := rfl
theorem l0_fn (p : Pl) (f : FuncId) : lend0 p (.fn f) = (.fn f) := rfl
theorem l1_fn (t : Nat) (q : List (Nat × Nat)) (f : FuncId) : lend1 t q (.fn f) = (.fn f) := rfl
theorem l2_fn (t : Nat) (f : FuncId) : lend2 t (.fn f) = (.fn f) := rfl
theorem l0_nil (p : Pl)  : lend0 p .nil = .nil := rfl
theorem l1_nil (t : Nat) (q : List (Nat × Nat))  : lend1 t q .nil = .nil := rfl
theorem l2_nil (t : Nat)  : lend2 t .nil = .nil := rfl
theorem l0_fz (p : Pl) (rows : List (List AV)) : lend0 p (.fz rows) = (.fz rows) := rfl
theorem l1_fz (t : Nat) (q : List (Nat × Nat)) (rows : List (List AV)) : lend1 t q (.fz rows) = (.fz rows) := rfl
theorem l2_fz (t : Nat) (rows : List (List AV)) : lend2 t (.fz rows) = (.fz rows) := rfl
theorem l0_bor (p : Pl) (p2 : Pl) (id : Nat) : lend0 p (.bor p2 id) = (.bor p2 id) := rfl
theorem l1_bor (t : Nat) (q : List (Nat × Nat)) (p : Pl) (id : Nat) : lend1 t q (.bor p id) = (.bor p id) := rfl
theorem l2_bor (t : Nat) (p : Pl) (id : Nat) : lend2 t (.bor p id) = (.bor p id) := rfl
theorem l0_adr (p : Pl) (p2 : Pl) (id sz j k : Nat) : lend0 p (.adr p2 id sz j k) = (.adr p2 id sz j k) := rfl
theorem l1_adr (t : Nat) (q : List (Nat × Nat)) (p : Pl) (id sz j k : Nat) : lend1 t q (.adr p id sz j k) = (.adr p id sz j k) := rfl
theorem l2_adr (t : Nat) (p : Pl) (id sz j k : Nat) : lend2 t (.adr p id sz j k) = (.adr p id sz j k) := rfl
theorem l0_fad (p : Pl) (row : List AV) (k : Nat) : lend0 p (.fad row k) = (.fad row k) := rfl
theorem l1_fad (t : Nat) (q : List (Nat × Nat)) (row : List AV) (k : Nat) : lend1 t q (.fad row k) = (.fad row k) := rfl
theorem l2_fad (t : Nat) (row : List AV) (k : Nat) : lend2 t (.fad row k) = (.fad row k) := rfl
theorem l0_own (p : Pl) (id sz : Nat) (rows : List (List AV)) : lend0 p (.own id sz rows) = .bor p id := rfl
theorem l0_mp (p : Pl) (id : Nat) (ks vs : List AV) : lend0 p (.mp id ks vs) = .bor p id := rfl
theorem l0_box (p : Pl) (id : Nat) (cells : List AV) : lend0 p (.box id cells) = .adr p id 0 0 0 := rfl
theorem l0_agg (p : Pl) (vs : List AV) : lend0 p (.agg vs) = .undef := rfl
theorem l2_own (t id sz : Nat) (rows : List (List AV)) : lend2 t (.own id sz rows) = .bor (t, []) id := rfl
theorem l2_mp (t id : Nat) (ks vs : List AV) : lend2 t (.mp id ks vs) = .bor (t, []) id := rfl
theorem l2_box (t id : Nat) (cells : List AV) : lend2 t (.box id cells) = .adr (t, []) id 0 0 0 := rfl
theorem l2_agg (t : Nat) (vs : List AV) : lend2 t (.agg vs) = .agg (lendL t [] 0 0 vs) := rfl
theorem l2_clo (t : Nat) (f : FuncId) (vs : List AV) : lend2 t (.clo f vs) = .clo f (lendL t [] 0 0 vs) := rfl
theorem l2_tup (t : Nat) (vs : List AV) : lend2 t (.tup vs) = .tup (lendM t 0 vs) := rfl
theorem l1_own (t : Nat) (q : List (Nat × Nat)) (id sz : Nat) (rows : List (List AV)) : lend1 t q (.own id sz rows) = .bor (t, q) id := rfl
theorem l1_box (t : Nat) (q : List (Nat × Nat)) (id : Nat) (cells : List AV) : lend1 t q (.box id cells) = .adr (t, q) id 0 0 0 := rfl
theorem l1_agg (t : Nat) (q : List (Nat × Nat)) (vs : List AV) : lend1 t q (.agg vs) = .agg (lendL t q 0 0 vs) := rfl
theorem lL_nil (t : Nat) (q : List (Nat × Nat)) (j i : Nat) : lendL t q j i [] = [] := rfl
theorem lL_cons (t : Nat) (q : List (Nat × Nat)) (j i : Nat) (v : AV) (vs : List AV) : lendL t q j i (v :: vs) = lend0 (t, q ++ [(j, i)]) v :: lendL t q j (i + 1) vs := rfl
theorem lM_nil (t i : Nat) : lendM t i [] = [] := rfl
theorem lM_cons (t i : Nat) (v : AV) (vs : List AV) : lendM t i (v :: vs) = lend1 t [(0, i)] v :: lendM t (i + 1) vs := rfl
theorem get_of (fr : Fr) (p : Pl) : fr.get p = getP p.2 (fr.s p.1) := rfl
theorem put_of (fr : Fr) (p : Pl) (u : AV) : fr.put p u = fr.upd p.1 (putP p.2 u (fr.s p.1)) := rfl
theorem gp_nil (v : AV) : getP [] v = some v := rfl
theorem gp_cons (x : Nat × Nat) (p : List (Nat × Nat)) (v : AV) : getP (x :: p) v = (v.kid x).bind (getP p) := rfl
theorem pp_nil (u v : AV) : putP [] u v = u := rfl
theorem kid_own (id sz : Nat) (rows : List (List AV)) (j k : Nat) : AV.kid (.own id sz rows) (j, k) = cell rows j k := rfl
theorem kid_box (id : Nat) (cells : List AV) (j k : Nat) : AV.kid (.box id cells) (j, k) = cells[k]? := rfl
theorem kid_agg (vs : List AV) (j k : Nat) : AV.kid (.agg vs) (j, k) = vs[k]? := rfl
theorem kid_tup (vs : List AV) (j k : Nat) : AV.kid (.tup vs) (j, k) = vs[k]? := rfl
theorem sk_own (id sz : Nat) (rows : List (List AV)) (j k : Nat) (u : AV) : AV.setKid (.own id sz rows) (j, k) u = .own id sz (setCell rows j k u) := rfl
theorem sk_box (id : Nat) (cells : List AV) (j k : Nat) (u : AV) : AV.setKid (.box id cells) (j, k) u = .box id (cells.set k u) := rfl
theorem sk_agg (vs : List AV) (j k : Nat) (u : AV) : AV.setKid (.agg vs) (j, k) u = .agg (vs.set k u) := rfl
theorem sk_tup (vs : List AV) (j k : Nat) (u : AV) : AV.setKid (.tup vs) (j, k) u = .tup (vs.set k u) := rfl
def notV : AV → Option AV
  | .bool b => some (.bool (!b))
  | _ => none
def negV : AV → Option AV
  | .int k n => some (.int k (k.wrap (0 - n)))
  | _ => none
def pickO (c u v : AV) : Option AV := match c with
  | .bool b => some (pickV b u v)
  | _ => none
def convO (P : Program) (src dst : TypeId) : AV → Option AV
  | .int _ n => if (P.underlying src).isSome then (intk P dst).map fun k => .int k (k.wrap n) else none
  | _ => none
def extO (i : Nat) : AV → Option AV
  | .tup vs => vs[i]?
  | _ => none
/-- One operation of a region; what is left of the answers, what is asked so far. -/
def xstep (P : Program) (all : Array Oper) (o : Oper) (fr : Fr) (ans : List AV) (obs : List Ob) : Option (Fr × List AV × List Ob) :=
  (gst all fr o).bind fun b => selB b ((fr.dst o.dst (.tup [])).map fun f => (f, ans, obs))
    (elimC (callOf o.op) (fun c => match ans with
        | v :: ans => (xargs fr (c.2.map fr.ev) v).bind fun us => (fr.dst o.dst v).map fun f => (f, ans, obs ++ [⟨c.1, us, v⟩])
        | [] => none)
      ((xe P fr o.dst o.op).map fun f => (f, ans, obs)))
/-- A region, run. The rest stands behind a bare name, so that it is looked at when its turn comes. -/
def xlR (P : Program) (all : Array Oper) : List Oper → Fr × List AV × List Ob → Option (Fr × List Ob)
  | [], s => match s.2.1 with
    | [] => some (s.1, s.2.2)
    | _ :: _ => none
  | o :: l, s => (xstep P all o s.1 s.2.1 s.2.2).bind (xlR P all l)
theorem xl_nil (P : Program) (all : Array Oper) (fr : Fr) (obs : List Ob) : xlR P all [] (fr, [], obs) = some (fr, obs) := rfl
theorem xl_cons (P : Program) (all : Array Oper) (o : Oper) (l : List Oper) (fr : Fr) (ans : List AV) (obs : List Ob) : xlR P all (o :: l) (fr, ans, obs) = (xstep P all o fr ans obs).bind (xlR P all l) := rfl
theorem xlR_eq {P : Program} {all : Array Oper} : ∀ (l : List Oper) (fr : Fr) (ans : List AV) (obs : List Ob), xlR P all l (fr, ans, obs) = (xlist P all l fr ans).map fun r => (r.1, obs ++ r.2)
  | [], fr, ans, obs => by cases ans <;> simp [xlR, xlist]
  | o :: l, fr, ans, obs => by
    rw [xl_cons]
    unfold xstep
    simp only [xlist]
    cases gst all fr o with
    | none => rfl
    | some b =>
      cases b with
      | false =>
        simp only [selB, Option.bind_some]
        cases fr.dst o.dst (.tup []) with
        | none => rfl
        | some f => simp only [Option.map_some, Option.bind_some]; rw [xlR_eq l f ans obs]
      | true =>
        simp only [selB, Option.bind_some]
        cases callOf o.op with
        | none =>
          simp only [elimC]
          cases xe P fr o.dst o.op with
          | none => rfl
          | some f => simp only [Option.map_some, Option.bind_some]; rw [xlR_eq l f ans obs]
        | some c =>
          simp only [elimC]
          cases ans with
          | nil => rfl
          | cons v ans =>
            simp only
            cases xargs fr (c.2.map fr.ev) v with
            | none => rfl
            | some us =>
              simp only [Option.bind_some]
              cases fr.dst o.dst v with
              | none => rfl
              | some f =>
                simp only [Option.map_some, Option.bind_some]
                rw [xlR_eq l f ans _]
                simp [Function.comp_def]
/-- One head of a region that draws. -/
def xhstep (P : Program) (all : Array Oper) (fr : Fr) (o : Oper) (ans vs : List AV) (obs : List Ob) : Option (List AV × List AV × List Ob) :=
  (gst all fr o).bind fun b => selB b (some (ans, vs ++ [.tup []], obs))
    (elimC (callOf o.op) (fun c => match ans with
        | v :: ans => (xargs fr (c.2.map fr.ev) v).map fun us => (ans, vs ++ [v], obs ++ [⟨c.1, us, v⟩])
        | [] => none)
      ((xq P fr o.op).map fun v => (ans, vs ++ [v], obs)))
def xhR (P : Program) (all : Array Oper) (base : Fr) (ds : List Nat) : List Oper → List (List Nat) → List AV × List AV × List Ob → Option (List AV × List Ob)
  | [], _, s => match s.1 with
    | [] => some (s.2.1, s.2.2)
    | _ :: _ => none
  | o :: l, a :: ks, s => (xhstep P all (base.see ds s.2.1 a) o s.1 s.2.1 s.2.2).bind (xhR P all base ds l ks)
  | _, _, _ => none
theorem xh_nil (P : Program) (all : Array Oper) (base : Fr) (ds : List Nat) (ks : List (List Nat)) (vs : List AV) (obs : List Ob) : xhR P all base ds [] ks ([], vs, obs) = some (vs, obs) := by cases ks <;> rfl
theorem xh_cons (P : Program) (all : Array Oper) (base : Fr) (ds : List Nat) (o : Oper) (l : List Oper) (a : List Nat) (ks : List (List Nat)) (ans vs : List AV) (obs : List Ob) :
    xhR P all base ds (o :: l) (a :: ks) (ans, vs, obs) = (xhstep P all (base.see ds vs a) o ans vs obs).bind (xhR P all base ds l ks) := rfl
theorem xhR_eq {P : Program} {all : Array Oper} {base : Fr} {ds : List Nat} : ∀ (l : List Oper) (ks : List (List Nat)) (ans vs : List AV) (obs : List Ob), xhR P all base ds l ks (ans, vs, obs) = (xheads P all base ds l ks ans vs).map fun r => (r.1, obs ++ r.2)
  | [], ks, ans, vs, obs => by cases ans <;> cases ks <;> simp [xhR, xheads]
  | o :: l, [], ans, vs, obs => by simp [xhR, xheads]
  | o :: l, a :: ks, ans, vs, obs => by
    rw [xh_cons]
    unfold xhstep
    simp only [xheads]
    cases gst all (base.see ds vs a) o with
    | none => rfl
    | some b =>
      cases b with
      | false => simp only [selB, Option.bind_some]; rw [xhR_eq l ks ans _ obs]
      | true =>
        simp only [selB, Option.bind_some]
        cases callOf o.op with
        | none =>
          simp only [elimC]
          cases xq P (base.see ds vs a) o.op with
          | none => rfl
          | some f => simp only [Option.map_some, Option.bind_some]; rw [xhR_eq l ks ans _ obs]
        | some c =>
          simp only [elimC]
          cases ans with
          | nil => rfl
          | cons v ans =>
            simp only
            cases xargs (base.see ds vs a) (c.2.map (base.see ds vs a).ev) v with
            | none => rfl
            | some us =>
              simp only [Option.map_some, Option.bind_some]
              rw [xhR_eq l ks ans _ _]
              simp [Function.comp_def]
section
variable (P : Program) (all : Array Oper) (fr : Fr) (d : Option Tmp)
theorem gst_none (o : Oper) (h : o.guard = none) : gst all fr o = some true := by unfold gst; rw [h]
theorem xe_assign (x : Operand) : xe P fr d (.assign x) = (fr.mat1 (fr.ev x)).bind fun r => r.2.dst d r.1 := rfl
theorem xe_move (x : Operand) : xe P fr d (.move x) = fr.dst d (fr.ev x) := rfl
theorem xe_load (t : TypeId) (x : Operand) : xe P fr d (.load t x) = (xLoad P fr t (fr.ev x)).bind fun v => fr.dst d v := rfl
theorem xe_fa (t : TypeId) (x : Operand) (i : Nat) : xe P fr d (.fieldAddr t x i) = (xField P t (fr.ev x) i).bind fun v => fr.dst d v := rfl
theorem xe_ix (t : TypeId) (x i : Operand) : xe P fr d (.indexAddr t x i) = (xIndex P fr t (fr.ev x) (fr.ev i)).bind fun v => fr.dst d v := rfl
theorem xe_bin (op : BinOp) (t : TypeId) (x y : Operand) (t' : TypeId) : xe P fr d (.binOp op t x y t') = (xBin2 P op t (fr.ev x) (fr.ev y)).bind fun v => fr.dst d v := rfl
theorem xe_box (t : TypeId) (x : Operand) : xe P fr d (.box t x) = (fr.mat1 (fr.ev x)).bind fun r => if r.1.solid = true then (r.2.fresh 1).dst d (.box r.2.g r.1.cellsL) else none := rfl
theorem xe_alloc (t : TypeId) : xe P fr d (.alloc t) = if oneCells P t = true then (zer P t).bind fun zs => (fr.fresh 1).dst d (.box fr.g zs) else none := rfl
theorem xe_store (t : TypeId) (x y : Operand) : xe P fr d (.store t x y) = (fr.mat1 (fr.ev y)).bind fun r => if r.1.solid = true ∧ tsz P t = some r.1.cellsL.length then (xStore P r.2 (fr.ev x) r.1.cellsL).bind fun f => f.dst d .undef else none := rfl
theorem xe_not (t : TypeId) (x : Operand) : xe P fr d (.unOp .not t x) = (notV (fr.ev x)).bind fun v => fr.dst d v := rfl
theorem xe_neg (t : TypeId) (x : Operand) : xe P fr d (.unOp .neg t x) = (negV (fr.ev x)).bind fun v => fr.dst d v := rfl
theorem xe_pick (c x y : Operand) : xe P fr d (.pick c x y) = (pickO (fr.ev c) (fr.ev x) (fr.ev y)).bind fun v => fr.dst d v := rfl
theorem xe_conv (src dst : TypeId) (x : Operand) : xe P fr d (.convert src dst x) = (convO P src dst (fr.ev x)).bind fun v => fr.dst d v := rfl
theorem xe_extract (x : Operand) (i : Nat) : xe P fr d (.extract x i) = (extO i (fr.ev x)).bind fun v => fr.dst d v := rfl
theorem xe_build (t : TypeId) (parts : Array (Nat × Operand)) : xe P fr d (.build t parts) = (fr.matA (parts.toList.map fun p => fr.ev p.2)).bind fun r => if oneCells P t = true then (bplc P t).bind fun pl => (zer P t).bind fun zs => (afill (fun i => pl[i]?) zs ((parts.toList.map (·.1)).zip r.1)).bind fun out => r.2.dst d (.agg out) else none := rfl
theorem xe_bslice (t : TypeId) (n : Nat) (parts : Array (Nat × Operand)) : xe P fr d (.buildSlice t n parts) = if n = 0 ∧ parts.size = 0 then (elsz P t).bind fun s => (fr.fresh 1).dst d (.own fr.g s []) else (fr.matA (parts.toList.map fun p => fr.ev p.2)).bind fun r => (elsz P t).bind fun s => (ezer P t).bind fun zs => if eone P t = true ∧ 0 < n * s ∧ n * s ≤ 16777216 then
      (afill (fun i => some (i * s, s)) (zerN zs (n * s)) ((parts.toList.map (·.1)).zip r.1)).bind fun out => (r.2.fresh 1).dst d (.own r.2.g s (chunk n s out)) else none := rfl
theorem xe_mslice (t : TypeId) (x y : Operand) : xe P fr d (.makeSlice t x y) = (zer1v P t).bind fun z => match fr.ev x, fr.ev y with
    | .int _ n, .int _ n' => if n' = n ∧ 0 ≤ n ∧ z.2 * n.toNat ≤ 281474976710656 ∧ n.toNat ≤ 9223372036854775807 then (fr.fresh 1).dst d (.own fr.g 1 (List.replicate n.toNat [z.1])) else none
    | _, _ => none := rfl
theorem xe_mmap (t : TypeId) : xe P fr d (.makeMap t none) = (fr.fresh 1).dst d (.mp fr.g [] []) := rfl
theorem xe_cut (t : TypeId) (x : Operand) (lo hi : Option Operand) : xe P fr d (.slice t x lo hi none) = (xCut P t (fr.ev x) (lo.map fr.ev) (hi.map fr.ev)).bind fun v => fr.dst d v := rfl
theorem xe_mfunc (f : FuncId) (first caps : Array Operand) : xe P fr d (.makeFunc (.func f) first caps) = (if first.size = 0 then some (if caps.size = 0 then AV.fn f else .clo f (caps.toList.map fr.ev)) else none).bind fun v => fr.dst d v := rfl
theorem xe_len (x : Operand) (t : TypeId) : xe P fr d (.call { callee := .builtin .len, args := #[x], argTypes := #[t] }) = (if (elsz P t).isSome then (xLen fr (fr.ev x)).map fun (n : Nat) => AV.int .i64 (n : Int) else none).bind fun v => fr.dst d v := rfl
theorem xe_append (x y : Operand) (t t' : TypeId) : xe P fr d (.call { callee := .builtin .append, args := #[x, y], argTypes := #[t, t'] }) = (fr.src (fr.ev y)).bind fun ys => (elsz P t).bind fun z => (eby P t).bind fun i => (ys.2.bas z (fr.ev x)).bind fun bs =>
      if t' = t ∧ appOK P t z i = true ∧ ys.1.all (fun r => r.length == z) = true ∧ (bs.1.length + ys.1.length) * i ≤ 140737488355328 ∧ 0 < i then (bs.2.fresh 1).dst d (.own bs.2.g z (bs.1 ++ ys.1)) else none := rfl
theorem co_call (f : FuncId) (xs : Array Operand) (ts : Array TypeId) : callOf (.call { callee := .value (.func f), args := xs, argTypes := ts }) = some (f, xs.toList) := rfl
theorem co_bi (b : Builtin) (xs : Array Operand) (ts : Array TypeId) : callOf (.call { callee := .builtin b, args := xs, argTypes := ts }) = none := rfl
theorem co_move (x : Operand) : callOf (.move x) = none := rfl
theorem co_assign (x : Operand) : callOf (.assign x) = none := rfl
theorem co_load (t : TypeId) (x : Operand) : callOf (.load t x) = none := rfl
theorem co_store (t : TypeId) (x y : Operand) : callOf (.store t x y) = none := rfl
theorem co_fa (t : TypeId) (x : Operand) (i : Nat) : callOf (.fieldAddr t x i) = none := rfl
theorem co_ix (t : TypeId) (x i : Operand) : callOf (.indexAddr t x i) = none := rfl
theorem co_bin (b : BinOp) (t t2 : TypeId) (x y : Operand) : callOf (.binOp b t x y t2) = none := rfl
theorem co_un (b : UnOp) (t : TypeId) (x : Operand) : callOf (.unOp b t x) = none := rfl
theorem co_pick (x y z : Operand) : callOf (.pick x y z) = none := rfl
theorem co_conv (t t2 : TypeId) (x : Operand) : callOf (.convert t t2 x) = none := rfl
theorem co_extract (x : Operand) (i : Nat) : callOf (.extract x i) = none := rfl
theorem co_box (t : TypeId) (x : Operand) : callOf (.box t x) = none := rfl
theorem co_alloc (t : TypeId) : callOf (.alloc t) = none := rfl
theorem co_build (t : TypeId) (ps : Array (Nat × Operand)) : callOf (.build t ps) = none := rfl
theorem co_bslice (t : TypeId) (n : Nat) (ps : Array (Nat × Operand)) : callOf (.buildSlice t n ps) = none := rfl
theorem co_mslice (t : TypeId) (x y : Operand) : callOf (.makeSlice t x y) = none := rfl
theorem co_mmap (t : TypeId) (x : Option Operand) : callOf (.makeMap t x) = none := rfl
theorem co_slice (t : TypeId) (x : Operand) (lo hi mx : Option Operand) : callOf (.slice t x lo hi mx) = none := rfl
theorem co_mfunc (fn : Fn) (a c : Array Operand) : callOf (.makeFunc fn a c) = none := rfl
end
attribute [go_sem] s_of g_of n_of look_nil look_cons s_upd g_upd n_upd s_fresh g_fresh n_fresh s_hide g_hide n_hide seeF_nil seeF_cons ev_tmp ev_const ev_func dst_none dst_some oc_int oc_bool oc_str oc_nil co_move co_assign co_load co_store co_fa co_ix co_bin co_un co_pick co_conv co_extract co_box co_alloc co_build co_bslice co_mslice co_mmap co_slice co_mfunc selB_f selB_t elimC_s elimC_n xl_nil xl_cons xh_nil xh_cons xstep xhstep gst_none co_call co_bi xe_assign xe_move xe_load xe_fa xe_ix xe_bin xe_box xe_alloc xe_store xe_not xe_neg xe_pick xe_conv xe_extract xe_build xe_bslice xe_mslice xe_mmap xe_cut xe_mfunc xe_len xe_append l0_undef l1_undef l2_undef l0_int l1_int l2_int l0_bool l1_bool l2_bool l0_str l1_str l2_str l0_fn l1_fn l2_fn l0_nil l1_nil l2_nil l0_fz l1_fz l2_fz l0_bor l1_bor l2_bor l0_adr l1_adr l2_adr l0_fad l1_fad l2_fad l0_own l0_mp l0_box l0_agg l2_own l2_mp l2_box l2_agg l2_clo l2_tup l1_own l1_box l1_agg lL_nil lL_cons lM_nil lM_cons get_of put_of gp_nil gp_cons pp_nil kid_own kid_box kid_agg kid_tup sk_own sk_box sk_agg sk_tup
attribute [go_sem] f_shp2 f_shp3 f_shp4 f_shp5 f_shp9 f_shp22 f_shp23 f_shp25 f_shp26 f_shp34 f_shp35 f_shp37 f_shp38 f_shp40 f_shp42 f_shp44 f_shp45 f_shp47 f_shp57 f_shp58 f_shp60 f_shp62 f_shp67 f_shp69 f_shp72 f_shp74 f_shp104 f_shp110 f_shp112 f_shp115 f_shp116 f_shp118 f_shp120 f_shp129 f_shp131 f_shp136 f_shp138 f_shp140 f_shp143 f_shp145 f_shp149 f_shp157 f_shp162 f_tsz2 f_tsz3 f_tsz4 f_tsz5 f_tsz9 f_tsz22 f_tsz23 f_tsz25 f_tsz26 f_tsz34 f_tsz35 f_tsz37 f_tsz38 f_tsz40 f_tsz42 f_tsz44 f_tsz45 f_tsz47 f_tsz57 f_tsz58 f_tsz60 f_tsz62 f_tsz67 f_tsz69 f_tsz72 f_tsz74 f_tsz104 f_tsz110 f_tsz112 f_tsz115 f_tsz116 f_tsz118 f_tsz120 f_tsz129 f_tsz131 f_tsz136 f_tsz138 f_tsz140 f_tsz143 f_tsz145 f_tsz149 f_tsz157 f_tsz162 f_zer2 f_zer3 f_zer4 f_zer5 f_zer9 f_zer22 f_zer23 f_zer25 f_zer26 f_zer34 f_zer35 f_zer37 f_zer38 f_zer40 f_zer42 f_zer44 f_zer45 f_zer47 f_zer57 f_zer58 f_zer60 f_zer62 f_zer67 f_zer69 f_zer72 f_zer74 f_zer104 f_zer110 f_zer112 f_zer115 f_zer116 f_zer118 f_zer120 f_zer129 f_zer131 f_zer136 f_zer138 f_zer140 f_zer143 f_zer145 f_zer149 f_zer157 f_zer162 f_one2 f_one3 f_one4 f_one5 f_one9 f_one22 f_one23 f_one25 f_one26 f_one34 f_one35 f_one37 f_one38 f_one40 f_one42 f_one44 f_one45 f_one47 f_one57 f_one58 f_one60 f_one62 f_one67 f_one69 f_one72 f_one74 f_one104 f_one110 f_one112 f_one115 f_one116 f_one118 f_one120 f_one129 f_one131 f_one136 f_one138 f_one140 f_one143 f_one145 f_one149 f_one157 f_one162 f_fld25_0 f_fld25_1 f_fld25_2 f_fld37_0 f_fld37_1 f_fld37_2 f_fld37_3 f_fld37_4 f_fld37_5 f_fld42_0 f_fld42_1 f_fld42_2 f_fld42_3 f_fld44_0 f_fld44_1 f_fld47_0 f_fld47_1 f_fld47_2 f_fld47_3 f_fld47_4 f_fld47_5 f_fld47_6 f_fld57_0 f_fld57_1 f_fld57_2 f_fld60_0 f_fld60_1 f_fld60_2 f_fld60_3 f_fld62_0 f_fld62_1 f_fld62_2 f_fld74_0 f_fld74_1 f_fld74_2 f_fld74_3 f_fld74_4 f_fld104_0 f_fld104_1 f_fld104_2 f_fld104_3 f_fld112_0 f_fld112_1 f_fld112_2 f_fld112_3 f_fld112_4 f_fld112_5 f_fld112_6 f_fld112_7 f_fld112_8 f_fld118_0 f_fld118_1 f_fld118_2 f_fld118_3 f_fld129_0 f_fld129_1 f_fld129_2 f_fld138_0 f_fld138_1 f_fld145_0 f_fld145_1 f_fld145_2 f_fld145_3 f_fld145_4 f_fld145_5 f_fld149_0 f_fld149_1 f_fld157_0 f_fld157_1 f_fld157_2 f_fld157_3 f_fld162_0 f_fld162_1 f_bplc25 f_bplc37 f_bplc42 f_bplc44 f_bplc47 f_bplc57 f_bplc60 f_bplc62 f_bplc74 f_bplc104 f_bplc112 f_bplc118 f_bplc129 f_bplc138 f_bplc145 f_bplc149 f_bplc157 f_bplc162 f_elsz22 f_elsz23 f_elsz26 f_elsz34 f_elsz35 f_elsz38 f_elsz40 f_elsz45 f_elsz51 f_elsz58 f_elsz67 f_elsz69 f_elsz72 f_elsz92 f_elsz110 f_elsz140 f_elsz143 f_elsz153 f_ezer22 f_ezer23 f_ezer26 f_ezer34 f_ezer35 f_ezer38 f_ezer40 f_ezer45 f_ezer51 f_ezer58 f_ezer67 f_ezer69 f_ezer72 f_ezer92 f_ezer110 f_ezer140 f_ezer143 f_ezer153 f_eone22 f_eone23 f_eone26 f_eone34 f_eone35 f_eone38 f_eone40 f_eone45 f_eone51 f_eone58 f_eone67 f_eone69 f_eone72 f_eone92 f_eone110 f_eone140 f_eone143 f_eone153 f_eby22 f_eby23 f_eby26 f_eby34 f_eby35 f_eby38 f_eby40 f_eby45 f_eby51 f_eby58 f_eby67 f_eby69 f_eby72 f_eby92 f_eby110 f_eby140 f_eby143 f_eby153 f_app22 f_app23 f_app26 f_app34 f_app35 f_app38 f_app40 f_app45 f_app51 f_app58 f_app67 f_app69 f_app72 f_app92 f_app110 f_app140 f_app143 f_app153 f_zer1v26 f_zer1v38 f_zer1v45 f_zer1v51 f_zer1v58 f_zer1v67 f_zer1v92 f_zer1v110 f_zer1v143 f_eqty42 f_eqty57 f_eqty162 f_boolty f_intk5 f_intk27 f_intk2 f_intk3 f_und5 f_und27 f_und2 f_und3
attribute [go_sem] Fr.mat0 Fr.mat1 Fr.matL Fr.matA xLoad ldRow ldFrz xField xIndex xLen xBin xBin2 eqCs eqC eqFits eqFit pickV xargs AV.lent AV.scal AV.frz AV.solid AV.leaf AV.cellsL xStore Fr.stN AV.isMem Fr.src Fr.bas Fr.view0 Fr.view1 Fr.viewL Fr.viewA afill setN putP chunk zerN gst notV negV pickO convO extO
theorem optbs {α β : Type} (a : α) (f : α → Option β) : (some a).bind f = f a := rfl
theorem optms {α β : Type} (a : α) (f : α → β) : (some a).map f = some (f a) := rfl
theorem optbn {α β : Type} (f : α → Option β) : (none : Option α).bind f = none := rfl
theorem cell_of (rows : List (List AV)) (j k : Nat) : cell rows j k = (rows[j]?).bind (·[k]?) := rfl
theorem toNat_nat (n : Nat) : ((n : Int)).toNat = n := Int.toNat_natCast n
theorem nat_nonneg (n : Nat) : (0 ≤ (n : Int)) = True := eq_true (Int.natCast_nonneg n)
attribute [go_sem] optbs optms optbn cell_of toNat_nat nat_nonneg List.map_cons List.map_nil List.zipIdx_cons List.zipIdx_nil List.getElem?_cons_zero List.getElem?_cons_succ List.getElem?_nil List.getElem?_map List.length_map List.length_cons List.length_nil List.drop_zero List.drop_succ_cons List.drop_nil List.take_zero List.take_succ_cons List.take_nil List.set_cons_zero List.set_cons_succ List.getD_cons_zero List.getD_cons_succ List.contains_cons List.contains_nil List.nil_append List.cons_append List.append_nil Bool.not_true Bool.not_false and_self true_and and_true eq_self List.any_cons List.any_nil List.all_cons List.all_nil Bool.or_false Bool.or_true Bool.false_or Bool.true_or Bool.and_true Bool.true_and Bool.and_false Bool.false_and Option.isSome_some Option.some.injEq List.toList_toArray List.getElem?_toArray List.zip_cons_cons List.zip_nil_left List.zip_nil_right List.range_succ List.range_zero Nat.zero_add Nat.add_zero Nat.zero_mul Nat.mul_one Nat.one_mul List.size_toArray beq_self_eq_true decide_true decide_false List.map_map Function.comp_def
attribute [go_sem ↓] reduceIte
attribute [go_sem] Nat.reduceEqDiff Nat.reduceLT Nat.reduceLeDiff Nat.reduceAdd Nat.reduceMul Nat.reduceSub Nat.reduceMod Nat.reduceDiv Nat.reduceBEq Nat.reduceBNe reduceCtorEq Int.reduceLT Int.reduceLE Int.reduceToNat Int.reduceNeg Int.reduceEq Int.reduceAdd Int.reduceSub Int.reduceMul
end Go.Proofs.Ytgoajlgkbcongaa.Vm
end
section
set_option linter.unusedVariables false
set_option linter.unusedSimpArgs false
namespace Go.Proofs.Ytgoajlgkbcongaa.Vm
open Go Go.RowKit Go.Proofs
section
variable {P : Program} {K : Base} {fr fr' : Fr} {Q : Exit → Fr → Prop}
theorem AW.run {id : Nat} {ops : Array Oper} {obs : List Ob} (ans : List AV) (h : xlR P ops ops.toList (fr, ans, []) = some (fr', obs)) (ho : obsOK P obs) (hq : Q .normal fr') : AW P K (.region id ops false) fr Q := by
  rw [xlR_eq] at h
  obtain ⟨⟨f, ob⟩, h1, h2⟩ := Option.map_eq_some_iff.1 h
  simp only [List.nil_append, Prod.mk.injEq] at h2
  obtain ⟨rfl, rfl⟩ := h2
  exact AW.region (LW.run _ _ ans h1 ho hq)
/-- A region ahead of the rest. -/
theorem AW.runs {id : Nat} {ops : Array Oper} {obs : List Ob} {y : Code} (ans : List AV) (h : xlR P ops ops.toList (fr, ans, []) = some (fr', obs)) (ho : obsOK P obs) (hq : AW P K y fr' Q) : AW P K (.seq (.region id ops false) y) fr Q :=
  AW.seq (AW.run ans h ho hq)
/-- A region that draws, run: the heads in their lexical order, then the tail. -/
theorem AW.drw {id : Nat} {ops : Array Oper} {N g : Nat} {l : List (Nat × AV)} {vs : List AV} {obs obs' : List Ob} {hl tl : List Oper} (n : Nat) (A : List (List Nat)) (ds : List Nat) (ans ans' : List AV) (hm : P.follows .mixedOrders = true) (hB : drawB ops n A = true)
    (hds : headSlots ops n = ds) (hd : (ds.all fun d => decide (d < N)) = true) (hhl : ops.toList.take n = hl) (htl : ops.toList.drop n = tl) (hx : xhR P ops (Fr.of l g N) ds hl A (ans, [], []) = some (vs, obs)) (hob : obsOK P obs)
    (ht : xlR P ops tl ((Fr.of l g N).see ds vs (List.range n), ans', []) = some (fr', obs')) (hob' : obsOK P obs') (hq : Q .normal fr') : AW P K (.region id ops true) (Fr.of l g N) Q := by
  subst hds
  subst hhl
  subst htl
  rw [xhR_eq] at hx
  obtain ⟨⟨f, ob⟩, h1, h2⟩ := Option.map_eq_some_iff.1 hx
  simp only [List.nil_append, Prod.mk.injEq] at h2
  obtain ⟨rfl, rfl⟩ := h2
  rw [xlR_eq] at ht
  obtain ⟨⟨f, ob⟩, h3, h4⟩ := Option.map_eq_some_iff.1 ht
  simp only [List.nil_append, Prod.mk.injEq] at h4
  obtain ⟨rfl, rfl⟩ := h4
  refine AW.drawX hm hB (fun d hd' => ?_) h1 hob (LW.run _ _ ans' h3 hob' hq)
  exact of_decide_eq_true (List.all_eq_true.1 hd d hd')
def okL (fr : Fr) : List (Nat × AV) → Prop
  | [] => True
  | (t, v) :: l => fr.s t = v ∧ okL fr l
theorem le_of {l : List (Nat × AV)} {g n : Nat} (hn : fr.n = n) (hg : fr.g = g) (h : okL fr l) : fr.Le (Fr.of l g n) := by
  refine ⟨hn.symm, hg.symm, fun t => ?_⟩
  show look l t = _ ∨ look l t = _
  induction l with
  | nil => exact .inr rfl
  | cons p l ih =>
    obtain ⟨u, v⟩ := p
    obtain ⟨h1, h2⟩ := h
    rw [look_cons]
    by_cases e : t = u
    · rw [if_pos e, e]; exact .inl h1.symm
    · rw [if_neg e]; exact ih h2
theorem AW.to {c : Code} (l : List (Nat × AV)) {g n : Nat} (hn : fr.n = n) (hg : fr.g = g) (h : okL fr l) (hq : AW P K c (Fr.of l g n) Q) : AW P K c fr Q := AW.weak (le_of hn hg h) hq
theorem AW.seq1 {x y : Code} {R : Fr → Prop} (h : AW P K x fr (thenQ R Q)) (hr : ∀ f, R f → AW P K y f Q) : AW P K (.seq x y) fr Q := by
  refine AW.seq (h.mono fun e f hf => ?_)
  cases e <;> first | exact hr f hf | exact hf
theorem AW.if {c : Operand} {x y : Code} {b : Bool} (hc : fr.ev c = .bool b) (h1 : b = true → AW P K x fr Q) (h2 : b = false → AW P K y fr Q) : AW P K (.cond c x y) fr Q := AW.cond hc h1 h2
theorem Fun.of {f : FuncId} {fn : Func} {c : Code} {args : List AV} {R : AV → Prop} (hf : P.funcs[f]? = some fn) (hb : fn.body = some c) (hname : (fn.name == "runtime.NumGoroutine") = false) (n : Nat) (hn : fn.ntmps = n) (hl : (decide (args.length ≤ n)) = true)
    (h : ∀ K g, AW P K c (Fr.of (args.zipIdx.map fun p => (p.2, p.1)) g n) (fun e fr => (e = .ret ∨ e = .normal) ∧ ∃ v, outR P fr fn.results.toList = some v ∧ R v)) : Fun P f args R := by
  refine ⟨⟨fn, c, hf, hb, hname⟩, Con.of hf hb (by rw [hn]; exact of_decide_eq_true hl) fun K g => ?_⟩
  rw [start_of, hn]
  exact h K g
theorem Fun.mono {f : FuncId} {args : List AV} {R R' : AV → Prop} (h : Fun P f args R) (hR : ∀ v, R v → R' v) : Fun P f args R' := ⟨h.1, h.2.mono hR⟩
end
section
variable {P : Program}
/-- What a call is asked, of a function that hands back one value. -/
theorem Fun.ob {f : FuncId} {args : List AV} {v : AV} (h : Fun P f args (fun r => r = v)) (hv : v.frz = v) : Ob.ok P ⟨f, args, v⟩ := h.mono fun r hr => by rw [hr, hv]
theorem Fun.obb {f : FuncId} {args : List AV} {b : Bool} (h : Fun P f args (fun r => r = .bool b)) : Ob.ok P ⟨f, args, .bool b⟩ := h.ob (by rw [AV.frz])
theorem Fun.obi {f : FuncId} {args : List AV} {k : IntKind} {n : Int} (h : Fun P f args (fun r => r = .int k n)) : Ob.ok P ⟨f, args, .int k n⟩ := h.ob (by rw [AV.frz])
theorem Fun.obf {f : FuncId} {args : List AV} {v : AV} (h : Fun P f args (fun r => r.frz = v)) : Ob.ok P ⟨f, args, v⟩ := h
theorem ob0 : obsOK P [] := trivial
theorem ob1 {a : Ob} (h : a.ok P) : obsOK P [a] := ⟨h, trivial⟩
theorem ob2 {a b : Ob} (h : a.ok P) (k : b.ok P) : obsOK P [a, b] := ⟨h, k, trivial⟩
theorem ob3 {a b c : Ob} (h : a.ok P) (k : b.ok P) (l : c.ok P) : obsOK P [a, b, c] := ⟨h, k, l, trivial⟩
end
theorem look_if (u t : Nat) (v : AV) (l : List (Nat × AV)) : look ((u, v) :: l) t = if t = u then v else look l t := rfl
theorem thenQ_normal (R : Fr → Prop) (Q : Exit → Fr → Prop) (f : Fr) : thenQ R Q .normal f = R f := rfl
theorem thenQ_exit (R : Fr → Prop) (Q : Exit → Fr → Prop) (k : Nat) (f : Fr) : thenQ R Q (.exit k) f = Q (.exit k) f := rfl
theorem thenQ_ret (R : Fr → Prop) (Q : Exit → Fr → Prop) (f : Fr) : thenQ R Q .ret f = Q .ret f := rfl
theorem blockQ_normal (id : Nat) (Q : Exit → Fr → Prop) (f : Fr) : blockQ id Q .normal f = Q .normal f := rfl
theorem blockQ_ret (id : Nat) (Q : Exit → Fr → Prop) (f : Fr) : blockQ id Q .ret f = Q .ret f := rfl
theorem blockQ_exit (id k : Nat) (Q : Exit → Fr → Prop) (f : Fr) : blockQ id Q (.exit k) f = if k = id then Q .normal f else Q (.exit k) f := rfl
theorem okL_nil (fr : Fr) : okL fr [] = True := rfl
theorem okL_cons (fr : Fr) (t : Nat) (v : AV) (l : List (Nat × AV)) : okL fr ((t, v) :: l) = (fr.s t = v ∧ okL fr l) := rfl
theorem outR_one (P : Program) (fr : Fr) (r : ResultVar) : outR P fr [r] = outV P fr r := rfl
theorem outV_tmp (P : Program) (fr : Fr) (t : Nat) : outV P fr (.tmp t) = some (fr.s t) := rfl
theorem s_see (base : Fr) (ds : List Nat) (vs : List AV) (S : List Nat) (t : Nat) : (base.see ds vs S).s t = if ds.contains t = true then (if S.contains (ds.idxOf t) = true then vs.getD (ds.idxOf t) .undef else .undef) else base.s t := rfl
theorem g_see (base : Fr) (ds : List Nat) (vs : List AV) (S : List Nat) : (base.see ds vs S).g = base.g := rfl
theorem n_see (base : Fr) (ds : List Nat) (vs : List AV) (S : List Nat) : (base.see ds vs S).n = base.n := rfl
section
variable (P : Program) (fr : Fr)
theorem xq_move (x : Operand) : xq P fr (.move x) = some (fr.ev x) := rfl
theorem xq_load (t : TypeId) (x : Operand) : xq P fr (.load t x) = xLoad P fr t (fr.ev x) := rfl
theorem xq_fa (t : TypeId) (x : Operand) (i : Nat) : xq P fr (.fieldAddr t x i) = xField P t (fr.ev x) i := rfl
theorem xq_ix (t : TypeId) (x i : Operand) : xq P fr (.indexAddr t x i) = xIndex P fr t (fr.ev x) (fr.ev i) := rfl
theorem xq_bin (op : BinOp) (t : TypeId) (x y : Operand) (t' : TypeId) : xq P fr (.binOp op t x y t') = xBin2 P op t (fr.ev x) (fr.ev y) := rfl
theorem xq_not (t : TypeId) (x : Operand) : xq P fr (.unOp .not t x) = notV (fr.ev x) := rfl
theorem xq_neg (t : TypeId) (x : Operand) : xq P fr (.unOp .neg t x) = negV (fr.ev x) := rfl
theorem xq_pick (c x y : Operand) : xq P fr (.pick c x y) = pickO (fr.ev c) (fr.ev x) (fr.ev y) := rfl
theorem xq_conv (src dst : TypeId) (x : Operand) : xq P fr (.convert src dst x) = convO P src dst (fr.ev x) := rfl
theorem xq_extract (x : Operand) (i : Nat) : xq P fr (.extract x i) = extO i (fr.ev x) := rfl
theorem xq_cut (t : TypeId) (x : Operand) (lo hi : Option Operand) : xq P fr (.slice t x lo hi none) = xCut P t (fr.ev x) (lo.map fr.ev) (hi.map fr.ev) := rfl
theorem xq_len (x : Operand) (t : TypeId) : xq P fr (.call { callee := .builtin .len, args := #[x], argTypes := #[t] }) = if (elsz P t).isSome then (xLen fr (fr.ev x)).map fun (n : Nat) => AV.int .i64 (n : Int) else none := rfl
end
attribute [go_sem] s_see g_see n_see xq_move xq_load xq_fa xq_ix xq_bin xq_not xq_neg xq_pick xq_conv xq_extract xq_cut xq_len List.idxOf_cons List.idxOf_nil cond_true cond_false
attribute [go_sem] thenQ_normal thenQ_exit thenQ_ret blockQ_normal blockQ_ret blockQ_exit okL_nil okL_cons outR_one outV_tmp
end Go.Proofs.Ytgoajlgkbcongaa.Vm
end
section
set_option linter.unusedVariables false
set_option linter.unusedSimpArgs false
namespace Go.Proofs.Ytgoajlgkbcongaa.Vm
open Go Go.RowKit Go.Proofs
/-- There is such a value. -/
def Okv (v : AV) : Prop := ∃ w D cv, FZ w D v cv
theorem Okv.len {rows : List (List AV)} (h : Okv (.fz rows)) : rows.length ≤ 9223372036854775807 := by
  obtain ⟨w, D, cv, h⟩ := h
  cases h with
  | fz rows A n cap sz cvs hn hsz hcap hmax hcell hv hone => omega
theorem Okv.cell {rows : List (List AV)} (h : Okv (.fz rows)) {row : List AV} (hr : row ∈ rows) {v : AV} (hv : v ∈ row) : Okv v := by
  obtain ⟨w, D, cv, h⟩ := h
  cases h with
  | fz rows A n cap sz cvs hn hsz hcap hmax hcell hvv hone =>
    obtain ⟨j, hj, rfl⟩ := List.mem_iff_getElem.1 hr
    obtain ⟨k, hk, rfl⟩ := List.mem_iff_getElem.1 hv
    exact ⟨w, D, _, hvv j k _ (cell_row (List.getElem?_eq_getElem hj) (List.getElem?_eq_getElem hk))⟩
theorem Okv.part {vs : List AV} (h : Okv (.agg vs)) {v : AV} (hv : v ∈ vs) : Okv v := by
  obtain ⟨w, D, cv, h⟩ := h
  cases h with
  | agg vs cvs hn hvv =>
    obtain ⟨k, hk, rfl⟩ := List.mem_iff_getElem.1 hv
    exact ⟨w, D, _, hvv k _ cvs[k] (List.getElem?_eq_getElem hk) (Array.getElem?_eq_getElem (by omega))⟩
/-- A function, at values that there are. -/
theorem Fun.ok {P : Program} {f : FuncId} {fn : Func} {c : Code} {args : List AV} {R : AV → Prop} (hf : P.funcs[f]? = some fn) (hb : fn.body = some c) (hname : (fn.name == "runtime.NumGoroutine") = false) (n : Nat) (hn : fn.ntmps = n) (hl : (decide (args.length ≤ n)) = true)
    (h : (∀ v ∈ args, Okv v) → ∀ K g, AW P K c (Fr.of (args.zipIdx.map fun p => (p.2, p.1)) g n) (fun e fr => (e = .ret ∨ e = .normal) ∧ ∃ v, outR P fr fn.results.toList = some v ∧ R v)) : Fun P f args R := by
  refine ⟨⟨fn, c, hf, hb, hname⟩, fun C cargs h1 h2 h3 => ?_⟩
  have hok : ∀ v ∈ args, Okv v := fun v hv => by
    obtain ⟨k, hk, rfl⟩ := List.mem_iff_getElem.1 hv
    exact ⟨C.w, C.D, _, h3 k _ cargs[k] (List.getElem?_eq_getElem hk) (Array.getElem?_eq_getElem (by omega))⟩
  exact (Fun.of hf hb hname n hn hl (h hok)).2 C cargs h1 h2 h3
theorem wrap_in (n : Int) (h1 : -9223372036854775808 ≤ n) (h2 : n ≤ 9223372036854775807) : IntKind.i64.wrap n = n := Go.IntWalk.i64_in n ⟨h1, h2⟩
/-- The next round's number. -/
theorem wrap_succ (i n : Nat) (h : i < n) (hn : n ≤ 9223372036854775807) : IntKind.i64.wrap ((i : Int) + 1) = ((i + 1 : Nat) : Int) := by
  rw [wrap_in _ (by omega) (by omega)]; omega
/-- A loop that counts. -/
theorem AW.for {P : Program} {K : Base} {Q : Exit → Fr → Prop} {fr : Fr} {c : Code} {X : Type} (N : Nat) (L : Nat → X → List (Nat × AV)) (inv : Nat → X → Prop) {n : Nat} (h0 : ∃ x g, inv 0 x ∧ fr.Le (Fr.of (L 0 x) g n))
    (step : ∀ i x g, i ≤ N → inv i x → AW P K c (Fr.of (L i x) g n) (thenQ (fun f => i < N ∧ ∃ x' g', inv (i + 1) x' ∧ f.Le (Fr.of (L (i + 1) x') g' n)) Q)) : AW P K (.loop c) fr Q := by
  obtain ⟨x0, g0, hi0, hl0⟩ := h0
  refine AW.loop (fun m f => ∃ i x g, m = N - i ∧ i ≤ N ∧ inv i x ∧ f.Le (Fr.of (L i x) g n)) N ⟨0, x0, g0, rfl, Nat.zero_le _, hi0, hl0⟩ ?_
  rintro m f ⟨i, x, g, rfl, hi, hinv, hle⟩
  refine AW.weak hle ((step i x g hi hinv).mono fun e f' h => ?_)
  cases e with
  | normal =>
    obtain ⟨hlt, x', g', h1, h2⟩ := h
    exact ⟨N - (i + 1), by omega, i + 1, x', g', rfl, hlt, h1, h2⟩
  | exit k => exact h
  | ret => exact h
  | goto k => exact h
  | panic k => exact h
  | outgrown => exact h
structure Ins where
  op : Int
  dst : Int
  a : Int
  b : Int
  var : Int
  num : Int
  args : List Int
structure Term where
  kind : Int
  a : Int
  to : Int
  els : Int
structure Block where
  ins : List Ins
  term : Term
structure Typ where
  kind : Int
  n : Int
  name : ByteArray
structure Var where
  name : ByteArray
  type : Typ
  words : Int
  fields : List ByteArray
structure Fn where
  name : ByteArray
  params : Int
  result : Bool
  vars : List Var
  blocks : List Block
  size : Int
structure Point where
  func : Int
  line : Int
  scope : List Int
structure Unt where
  funcs : List Fn
  main : Int
  points : List Point
def intRow (n : Int) : List AV := [.int .i64 n]
def boolRow (b : Bool) : List AV := [.bool b]
def strRow (s : ByteArray) : List AV := [.str s]
def insRow (x : Ins) : List AV := [.int .u8 x.op, .int .i64 x.dst, .int .i64 x.a, .int .i64 x.b, .int .i64 x.var, .int .i64 x.num, .fz (x.args.map intRow)]
def termRow (t : Term) : List AV := [.int .u8 t.kind, .int .i64 t.a, .int .i64 t.to, .int .i64 t.els]
def blockRow (b : Block) : List AV := [.fz (b.ins.map insRow), .int .u8 b.term.kind, .int .i64 b.term.a, .int .i64 b.term.to, .int .i64 b.term.els]
def typRow (t : Typ) : List AV := [.int .u8 t.kind, .int .i64 t.n, .str t.name]
def varRow (v : Var) : List AV := [.str v.name, .int .u8 v.type.kind, .int .i64 v.type.n, .str v.type.name, .int .i64 v.words, .fz (v.fields.map strRow)]
def fnRow (f : Fn) : List AV := [.str f.name, .int .i64 f.params, .bool f.result, .fz (f.vars.map varRow), .fz (f.blocks.map blockRow), .int .i64 f.size]
def pointRow (p : Point) : List AV := [.int .i64 p.func, .int .i64 p.line, .fz (p.scope.map intRow)]
def untRow (u : Unt) : List AV := [.fz (u.funcs.map fnRow), .int .i64 u.main, .fz (u.points.map pointRow)]
attribute [go_sem] intRow boolRow strRow insRow termRow blockRow typRow varRow fnRow pointRow untRow
theorem frz_cells (vs : List AV) : AV.frz (.agg vs) = .agg (vs.map AV.frz) := by rw [AV.frz]
end Go.Proofs.Ytgoajlgkbcongaa.Vm
end
section
set_option linter.unusedVariables false
set_option linter.unusedSimpArgs false
namespace Go.Proofs.Ytgoajlgkbcongaa.Vm
open Go Go.RowKit Go.Proofs
/-! ### Freezing -/
section
variable {P : Program} {K : Base} {fr fr' : Fr}
theorem StC.ice {a : Act} {w : World} {C : Cx} {F : Nat → FP} (hs : StC K fr a w C F) {p : Pl} {c : AV} (hg : fr.get p = some c) : ∃ C' F', StC K (fr.put p c.frz) a w C' F' := by
  obtain ⟨cc, Fc, hv, hsub, hput⟩ := hs.rel.lens hg
  have hz : FZ C.w (fun x => C.D x ∧ ¬ Fc x) c.frz cc := hv.frz (fun x hx => hx.1) (fun x hx h' => h'.2 hx)
  have hrel := hput (C.less (fun x => C.D x ∧ ¬ Fc x)) c.frz (fun _ => False) (.lit _ _ hz) ⟨Nat.le_refl _, fun _ _ => rfl, fun _ _ => rfl, fun x _ hx => ⟨rfl, fun h' => hx h'.1⟩⟩ (fun _ h => h.elim) (fun _ h => h.elim) (fun x h1 h2 => ⟨h1, h2⟩)
  have hF : ∀ t x, (if t = p.1 then (F t x ∧ ¬ Fc x) ∨ False else F t x) → F t x := fun t x hx => by
    by_cases e : t = p.1
    · rw [if_pos e] at hx; exact hx.elim (fun h => h.1) False.elim
    · rwa [if_neg e] at hx
  exact ⟨C.less (fun x => C.D x ∧ ¬ Fc x), _, hs.hw, hs.hg, hrel, fun x hx => hs.lt x hx.1, fun t x hx => hs.new t x (hF t x hx), fun x hx => ⟨⟨(hs.avoid x hx).1, fun h => (hs.avoid x hx).2 _ (hsub x h)⟩, fun t ht => (hs.avoid x hx).2 t (hF t x ht)⟩, hs.fram, hs.defers, hs.size, hs.eta⟩
/-- What lies in a place is frozen for good. -/
theorem AW.ice {c : Code} {Q : Exit → Fr → Prop} (p : Pl) {v : AV} (hg : fr.get p = some v) (h : AW P K c (fr.put p v.frz) Q) : AW P K c fr Q := by
  rintro a w ⟨C, F, hs⟩
  obtain ⟨C', F', hs'⟩ := hs.ice hg
  exact h a w ⟨C', F', hs'⟩
theorem LW.ice {all : Array Oper} {l : List Oper} {Q : Exit → Fr → Prop} (p : Pl) {v : AV} (hg : fr.get p = some v) (h : LW P K all l (fr.put p v.frz) Q) : LW P K all l fr Q := by
  rintro a w ⟨C, F, hs⟩
  obtain ⟨C', F', hs'⟩ := hs.ice hg
  exact h a w ⟨C', F', hs'⟩
end
/-! ### By reference -/
/-- What a parameter is handed: a value that nobody writes, or a variable. -/
inductive Ar where
  | v (u : AV)
  | b (cells : List AV)
def Ar.av (id : Nat) : Ar → AV
  | .v u => u
  | .b cells => .box id cells
def argsR (ids : Nat → Nat) : Nat → List Ar → List AV
  | _, [] => []
  | i, x :: xs => x.av (ids i) :: argsR ids (i + 1) xs
theorem argsR_at (ids : Nat → Nat) : ∀ (xs : List Ar) (i k : Nat), (argsR ids i xs)[k]? = (xs[k]?).map (Ar.av (ids (i + k)))
  | [], i, k => by simp [argsR]
  | x :: xs, i, 0 => by simp [argsR]
  | x :: xs, i, k + 1 => by simp only [argsR, List.getElem?_cons_succ, argsR_at ids xs (i + 1) k, show i + 1 + k = i + (k + 1) by omega]
def Fr.takeR : Fr → List AV → Option (List Ar × Fr)
  | fr, [] => some ([], fr)
  | fr, u :: us => match u with
    | .adr p id sz j k => match fr.get p with
      | some (.box id' cells) => if id' = id ∧ j = 0 ∧ k = 0 then ((fr.put p (.adr p id 0 0 0)).takeR us).map fun r => (.b cells :: r.1, r.2) else none
      | _ => none
    | u => (fr.takeR us).map fun r => (.v u.frz :: r.1, r.2)
def Fr.giveR (cs : Nat → List AV) : Nat → List AV → Fr → Option Fr
  | _, [], fr => some fr
  | i, u :: us, fr => match u with
    | .adr p id _ _ _ => match fr.get p with
      | some (.adr _ id' sz j k) => if id' = id ∧ j = 0 ∧ k = 0 then giveR cs (i + 1) us (fr.put p (.box id (cs i))) else none
      | _ => none
    | _ => giveR cs (i + 1) us fr
def idAt (us : List AV) (k : Nat) : Nat := match us[k]? with
  | some (.adr _ id _ _ _) => id
  | _ => 0
section
variable {C : Cx}
theorem VR.boxId {id : Nat} {cells : List AV} {cv : Value} {F : FP} (h : VR C (.box id cells) cv F) : id < C.g := by
  cases h with
  | lit v cv h => cases h
  | box id cells b e cur cvs Fc F hid => exact hid
theorem Rel.takeBox {fr : Fr} {tm : Nat → Value} {F : Nat → FP} (h : Rel C fr tm F) {p : Pl} {id : Nat} {cells : List AV} (hg : fr.get p = some (.box id cells)) :
    ∃ cc Fc F', VR C (.box id cells) cc Fc ∧ Moved C fr (fr.put p (.adr p id 0 0 0)) tm F F' Fc := by
  obtain ⟨cc, Fc, hv, hs, hput⟩ := h.lens hg
  obtain ⟨b, rfl, hη⟩ := hv.hdrBox
  have hh : VR C (.adr p id 0 0 0) (.pointer (some ⟨b, 0, none⟩)) (fun _ => False) := .adr p id 0 0 0 b hv.boxId (by rw [hη]; rfl)
  refine ⟨_, Fc, _, hv, hput C (.adr p id 0 0 0) (fun _ => False) hh (Compat.refl _ _) (fun _ h => h.elim) (fun _ h => h.elim) (fun x h _ => h), fun t x h1 h2 => ?_, fun t x h1 => ?_, fun x hx => ⟨p.1, hs x hx⟩, rfl, rfl⟩
  · by_cases e : t = p.1
    · simp only [if_pos e] at h1
      exact h1.elim (fun h => h.2 h2) False.elim
    · simp only [if_neg e] at h1
      exact e (h.dis t p.1 x h1 (hs x h2))
  · by_cases e : t = p.1
    · simp only [if_pos e] at h1
      subst e
      exact h1.elim (fun h => h.1) (fun h => h.elim)
    · simpa only [if_neg e] using h1
theorem idAt_succ (u : AV) (us : List AV) (k : Nat) : idAt (u :: us) (k + 1) = idAt us k := by unfold idAt; simp
theorem Rel.takeR : ∀ (us : List AV) {fr fr' : Fr} {tm : Nat → Value} {F : Nat → FP} {xs : List Ar} {cx : Nat → Value} (h : Rel C fr tm F) (hx : ∀ k x, us[k]? = some x → VR C x (cx k) (fun _ => False)) (hm : fr.takeR us = some (xs, fr')),
    ∃ (F' : Nat → FP) (Fc : Nat → FP) (Fv : FP), xs.length = us.length ∧ (∀ k x, xs[k]? = some x → VR C (x.av (idAt us k)) (cx k) (Fc k)) ∧ (∀ x, Fv x ↔ ∃ k, (xs[k]?).isSome ∧ Fc k x) ∧ (∀ k k' x, (xs[k]?).isSome → (xs[k']?).isSome → Fc k x → Fc k' x → k = k') ∧ Moved C fr fr' tm F F' Fv
  | [], fr, fr', tm, F, xs, cx, h, hx, hm => by
    simp only [Fr.takeR, Option.some.injEq, Prod.mk.injEq] at hm
    obtain ⟨rfl, rfl⟩ := hm
    exact ⟨F, fun _ _ => False, _, rfl, fun k v h => by simp at h, fun x => ⟨fun h => h.elim, fun ⟨_, _, h⟩ => h⟩, fun _ _ _ _ _ h => h.elim, .same h⟩
  | u :: us, fr, fr', tm, F, xs, cx, h, hx, hm => by
    obtain ⟨y, ys, fr1, F1, Fa, rfl, hm1, hv1, hmv1⟩ : ∃ y ys fr1 F1 Fa, xs = y :: ys ∧ fr1.takeR us = some (ys, fr') ∧ VR C (y.av (idAt (u :: us) 0)) (cx 0) Fa ∧ Moved C fr fr1 tm F F1 Fa := by
      have hu := hx 0 u rfl
      by_cases hadr : ∃ p id sz j k, u = .adr p id sz j k
      · obtain ⟨p, id, sz, j, k, rfl⟩ := hadr
        simp only [Fr.takeR] at hm
        cases hg : fr.get p with
        | none => simp [hg] at hm
        | some c =>
          cases c with
          | box id' cells =>
            simp only [hg] at hm
            split at hm
            · rename_i e
              obtain ⟨rfl, rfl, rfl⟩ := e
              obtain ⟨⟨ys, f⟩, h1, h2⟩ := Option.map_eq_some_iff.1 hm
              simp only [Prod.mk.injEq] at h2
              obtain ⟨rfl, rfl⟩ := h2
              obtain ⟨cc, Fc, F', hv, hmv⟩ := h.takeBox hg
              obtain ⟨b, e1, hb, _⟩ := hu.adrHdr
              obtain ⟨b', rfl, hb'⟩ := hv.hdrBox
              rw [hb'] at hb
              simp only [blockOf, Option.some.injEq] at hb
              subst hb
              simp only [Nat.zero_mul, Nat.add_zero] at e1
              exact ⟨.b cells, ys, _, F', Fc, rfl, h1, by rw [e1]; exact hv, hmv⟩
            · cases hm
          | _ => simp [hg] at hm
      · have hm' : (fr.takeR us).map (fun r => (Ar.v u.frz :: r.1, r.2)) = some (xs, fr') := by
          cases u <;> first | exact hm | exact absurd ⟨_, _, _, _, _, rfl⟩ hadr
        obtain ⟨⟨ys, f⟩, h1, h2⟩ := Option.map_eq_some_iff.1 hm'
        simp only [Prod.mk.injEq] at h2
        obtain ⟨rfl, rfl⟩ := h2
        exact ⟨.v u.frz, ys, fr, F, fun _ => False, rfl, h1, .lit _ _ (hu.frz (fun _ h => h) (fun _ h => h.elim)), .same h⟩
    obtain ⟨F2, Fc, Fb, hl, hvs, hF, hd, hmv2⟩ := Rel.takeR us (cx := fun k => cx (k + 1)) hmv1.rel (fun k x hk => hx (k + 1) x (by simpa using hk)) hm1
    have hab : ∀ x, Fa x → ¬ Fb x := fun x ha hb => let ⟨t, ht⟩ := hmv2.own x hb; hmv1.dis t x ht ha
    refine ⟨F2, fun k => match k with | 0 => Fa | k + 1 => Fc k, _, by simp [hl], fun k v hk => ?_, fun x => ?_, fun k k' x h1 h2 h3 h4 => ?_, hmv1.trans hmv2⟩
    · cases k with
      | zero => simp only [List.getElem?_cons_zero, Option.some.injEq] at hk; subst hk; exact hv1
      | succ k => simp only [List.getElem?_cons_succ] at hk; rw [idAt_succ]; exact hvs k v hk
    · constructor
      · rintro (hx | hx)
        · exact ⟨0, rfl, hx⟩
        · obtain ⟨k, h1, h2⟩ := (hF x).1 hx
          exact ⟨k + 1, by simpa using h1, h2⟩
      · rintro ⟨k, h1, h2⟩
        cases k with
        | zero => exact .inl h2
        | succ k => exact .inr ((hF x).2 ⟨k, by simpa using h1, h2⟩)
    · cases k with
      | zero => cases k' with
        | zero => rfl
        | succ k' => exact absurd ((hF x).2 ⟨k', by simpa using h2, h4⟩) (hab x h3)
      | succ k => cases k' with
        | zero => exact absurd ((hF x).2 ⟨k, by simpa using h1, h3⟩) (hab x h4)
        | succ k' => rw [hd k k' x (by simpa using h1) (by simpa using h2) h3 h4]
theorem Rel.giveR {cs : Nat → List AV} {Fc : Nat → FP} (hdd : ∀ k k' x, Fc k x → Fc k' x → k = k') (hD : ∀ k x, Fc k x → C.D x) : ∀ (us : List AV) (i : Nat) {fr fr' : Fr} {tm : Nat → Value} {F : Nat → FP} (h : Rel C fr tm F)
    (hb : ∀ k p id sz j l, us[k]? = some (.adr p id sz j l) → ∃ cv, VR C (.box id (cs (i + k))) cv (Fc (i + k))) (hdis : ∀ t x k, i ≤ k → F t x → ¬ Fc k x) (hm : fr.giveR cs i us = some fr'),
    ∃ F', Rel C fr' tm F' ∧ (∀ t x, F' t x → F t x ∨ ∃ k, Fc k x) ∧ fr'.g = fr.g ∧ fr'.n = fr.n
  | [], i, fr, fr', tm, F, h, hb, hdis, hm => by
    simp only [Fr.giveR, Option.some.injEq] at hm
    subst hm
    exact ⟨F, h, fun t x hx => .inl hx, rfl, rfl⟩
  | u :: us, i, fr, fr', tm, F, h, hb, hdis, hm => by
    by_cases hadr : ∃ p id sz j k, u = .adr p id sz j k
    · obtain ⟨p, id, sz, j, k, rfl⟩ := hadr
      simp only [Fr.giveR] at hm
      cases hg : fr.get p with
      | none => simp [hg] at hm
      | some c =>
        cases c with
        | adr p' id' sz' j' k' =>
          simp only [hg] at hm
          split at hm
          · rename_i e
            obtain ⟨rfl, rfl, rfl⟩ := e
            obtain ⟨cc, Fc0, hv, hsub, hput⟩ := h.lens hg
            obtain ⟨cv, hbv⟩ := hb 0 _ _ _ _ _ rfl
            obtain ⟨b, rfl, hb1, _⟩ := hv.adrHdr
            obtain ⟨b', rfl, hb2⟩ := hbv.hdrBox
            rw [hb2] at hb1
            simp only [blockOf, Option.some.injEq] at hb1
            subst hb1
            simp only [Nat.zero_mul, Nat.add_zero] at hput hbv
            have hrel := hput C _ (Fc i) hbv (Compat.refl _ _) (fun x hx t ht => hdis t x i (Nat.le_refl _) ht.1 hx) (fun x hx => hD i x hx) (fun x h _ => h)
            obtain ⟨F', h1, h2, h3, h4⟩ := Rel.giveR hdd hD us (i + 1) hrel (fun k p id sz j l hk => by
              have := hb (k + 1) p id sz j l (by simpa using hk)
              rwa [show i + (k + 1) = i + 1 + k by omega] at this) (fun t x k hk hx hc => by
              by_cases e : t = p.1
              · simp only [if_pos e] at hx
                rcases hx with hx | hx
                · exact hdis t x k (by omega) hx.1 hc
                · exact absurd (hdd i k x hx hc) (by omega)
              · simp only [if_neg e] at hx
                exact hdis t x k (by omega) hx hc) hm
            refine ⟨F', h1, fun t x hx => ?_, h3, h4⟩
            rcases h2 t x hx with hx | hx
            · by_cases e : t = p.1
              · simp only [if_pos e] at hx
                rcases hx with hx | hx
                · exact .inl hx.1
                · exact .inr ⟨i, hx⟩
              · simp only [if_neg e] at hx
                exact .inl hx
            · exact .inr hx
          · cases hm
        | _ => simp [hg] at hm
    · have hm' : fr.giveR cs (i + 1) us = some fr' := by
        cases u <;> first | exact hm | exact absurd ⟨_, _, _, _, _, rfl⟩ hadr
      exact Rel.giveR hdd hD us (i + 1) h (fun k p id sz j l hk => by
        have := hb (k + 1) p id sz j l (by simpa using hk)
        rwa [show i + (k + 1) = i + 1 + k by omega] at this) (fun t x k hk => hdis t x k (by omega)) hm'
end
section
variable {P : Program}
theorem outR_slots {fn : Func} {C : Cx} {fr : Fr} {tmps : Array Value} {F : Nat → FP} (h : Rel C fr (fun t => tmps.getD t Go.undef) F) {v : AV} (ho : outR P fr fn.results.toList = some v) :
    ∃ cv Fv, (results fn tmps).run P C.w = .ok cv C.w ∧ VR C v cv Fv ∧ ∀ x, Fv x → ∃ t, t ∈ fn.results.toList.map outSlot ∧ F t x := by
  rw [results_eq]
  generalize fn.results.toList = rs at ho
  unfold outR at ho
  split at ho
  · rename_i r
    obtain ⟨cv, Fv, h1, h2, h3⟩ := outV_sound h ho
    exact ⟨cv, Fv, by simp [h1], h2, fun x hx => ⟨_, by simp, h3 x hx⟩⟩
  · rename_i hne
    split at ho
    · rename_i hnd
      obtain ⟨vs, hvs, rfl⟩ := Option.map_eq_some_iff.1 ho
      obtain ⟨cvs, Fc, r2, l1, l2, v2, s2⟩ := outL_sound h rs hvs
      have hlen : cvs.length ≠ 1 := fun e => by
        rw [l1, l2] at e
        match rs, e with
        | [r], _ => exact hne r rfl
      refine ⟨.tuple cvs.toArray, fun x => ∃ k, (vs[k]?).isSome ∧ Fc k x, by simp [r2, hlen], .tup vs _ Fc _ (by simp [l1]) (fun k v cv h1 h2 => v2 k v cv h1 (by simpa using h2)) (fun x => Iff.rfl) (fun k k' x h1 h2 h3 h4 => ?_), fun x ⟨k, h1, h2⟩ => ?_⟩
      · have hk : k < rs.length := by rw [← l2]; simpa using h1
        have hk' : k' < rs.length := by rw [← l2]; simpa using h2
        have e1 := s2 k rs[k] x (List.getElem?_eq_getElem hk) h3
        have e2 := s2 k' rs[k'] x (List.getElem?_eq_getElem hk') h4
        have e3 := h.dis _ _ x e1 e2
        have hp := List.pairwise_iff_getElem.1 hnd
        rcases Nat.lt_trichotomy k k' with hlt | rfl | hlt
        · exact absurd (by rw [List.getElem_map, List.getElem_map]; exact e3) (hp k k' (by simpa using hk) (by simpa using hk') hlt)
        · rfl
        · exact absurd (by rw [List.getElem_map, List.getElem_map]; exact e3.symm) (hp k' k (by simpa using hk') (by simpa using hk) hlt)
      · have hk : k < rs.length := by rw [← l2]; simpa using h1
        exact ⟨_, List.mem_map.2 ⟨_, List.getElem_mem hk, rfl⟩, s2 k rs[k] x (List.getElem?_eq_getElem hk) h2⟩
    · cases ho
/-- A function that is handed variables by reference. cs: what the variable at a parameter holds behind the call. -/
def FunR (P : Program) (f : FuncId) (xs : List Ar) (R : AV → (Nat → List AV) → Prop) : Prop :=
  ∃ fn c, P.funcs[f]? = some fn ∧ fn.body = some c ∧ (fn.name == "runtime.NumGoroutine") = false ∧ xs.length ≤ fn.ntmps ∧
    ∀ K g ids, AW P K c (Fr.start (argsR ids 0 xs) g fn.ntmps) (fun e fr => (e = .ret ∨ e = .normal) ∧ ∃ v cs, outR P fr fn.results.toList = some v ∧ (∀ i c, xs[i]? = some (.b c) → fr.s i = .box (ids i) (cs i) ∧ i ∉ fn.results.toList.map outSlot) ∧ R v cs)
theorem FunR.mono {f : FuncId} {xs : List Ar} {R R' : AV → (Nat → List AV) → Prop} (h : FunR P f xs R) (hR : ∀ v cs, R v cs → R' v cs) : FunR P f xs R' := by
  obtain ⟨fn, c, h1, h2, h3, h4, h5⟩ := h
  exact ⟨fn, c, h1, h2, h3, h4, fun K g ids => (h5 K g ids).mono fun e fr ⟨he, v, cs, a, b, c⟩ => ⟨he, v, cs, a, b, hR v cs c⟩⟩
/-- The call of a function by name, or of a closure: the function, the arguments. -/
def callRef (fr : Fr) (op : Op) : Option (FuncId × List AV) :=
  match op with
  | .call { callee := .value x, args := xs, argTypes := _ } => match fr.ev x with
    | .fn f => some (f, xs.toList.map fr.ev)
    | .clo f caps => some (f, xs.toList.map fr.ev ++ caps)
    | _ => none
  | _ => none
theorem run_callv {o : Oper} {f : FuncId} {x : Operand} {xs : Array Operand} {ts : Array TypeId} {fn : Func} {c : Code} {caps : Array Value} (ho : o.op = .call { callee := .value x, args := xs, argTypes := ts }) (hf : P.funcs[f]? = some fn) (hb : fn.body = some c)
    (hname : (fn.name == "runtime.NumGoroutine") = false) (a : Act) (w : World) (hx : a.eval x = .func (.func f) #[] caps) : (execOp a.eval o).run P w = .ok (.enter f (xs.map a.eval ++ caps)) w := by
  have h1 : fn.name ≠ "runtime.NumGoroutine" := by simpa using hname
  have : (callFunc f (xs.map a.eval ++ caps)).run P w = .ok (.enter f (xs.map a.eval ++ caps)) w := by simp [callFunc, hf, h1, hb]
  simp only [execOp, ho, resolve, hx]
  simpa [Deferred.ofValue, invoke] using this
theorem callRef_sound {K : Base} {fr : Fr} {o : Oper} {f : FuncId} {us : List AV} {fn : Func} {c : Code} (hc : callRef fr o.op = some (f, us)) (hf : P.funcs[f]? = some fn) (hb : fn.body = some c) (hname : (fn.name == "runtime.NumGoroutine") = false) {a : Act} {w : World} {C : Cx} {F : Nat → FP}
    (hs : StC K fr a w C F) : ∃ cargs, (execOp a.eval o).run P w = .ok (.enter f cargs) w ∧ cargs.size = us.length ∧ ∀ (k : Nat) (u : AV), us[k]? = some u → VR C u (cargs.getD k Go.undef) (fun _ => False) := by
  unfold callRef at hc
  split at hc
  · rename_i x xs ts ho
    have hargs : ∀ (k : Nat) (u : AV), (xs.toList.map fr.ev)[k]? = some u → VR C u ((xs.map a.eval).getD k Go.undef) (fun _ => False) := fun k u hk => by
      have hlt : k < xs.size := by simpa using (List.getElem?_eq_some_iff.1 hk).1
      obtain ⟨y, e1, e2⟩ := args_at hk (Array.getElem?_eq_getElem (xs := xs.map a.eval) (by simpa using hlt))
      rw [Array.getD_eq_getD_getElem?, Array.getElem?_eq_getElem (xs := xs.map a.eval) (by simpa using hlt), Option.getD_some, ← e1, ← e2]
      exact hs.ev y
    have hx := hs.ev x
    split at hc
    · rename_i fa he
      cases hc
      rw [he] at hx
      refine ⟨xs.map a.eval ++ #[], run_callv ho hf hb hname a w hx.isFn, by simp, fun k u hk => ?_⟩
      rw [Array.append_empty]
      exact hargs k u hk
    · rename_i fa caps he
      cases hc
      rw [he] at hx
      obtain ⟨cvs, e1, hn, hvs⟩ := hx.plainParts.2 _ caps rfl
      refine ⟨xs.map a.eval ++ cvs, run_callv ho hf hb hname a w e1, by simp [hn], fun k u hk => ?_⟩
      rcases Nat.lt_or_ge k xs.size with hlt | hge
      · rw [List.getElem?_append_left (by simpa using hlt)] at hk
        have := hargs k u hk
        rw [Array.getD_eq_getD_getElem?] at this ⊢
        rw [Array.getElem?_append_left (by simpa using hlt)]
        exact this
      · rw [List.getElem?_append_right (by simpa using hge)] at hk
        simp only [List.length_map, Array.length_toList] at hk
        have hlt : k - xs.size < cvs.size := by rw [hn]; exact (List.getElem?_eq_some_iff.1 hk).1
        rw [Array.getD_eq_getD_getElem?, Array.getElem?_append_right (by simpa using hge)]
        simp only [Array.size_map]
        rw [Array.getElem?_eq_getElem hlt, Option.getD_some]
        exact hvs _ u _ hk (Array.getElem?_eq_getElem hlt)
    · cases hc
  · cases hc
theorem start_at (args : List AV) (g n t : Nat) : (Fr.start args g n).s t = args.getD t .undef := rfl
section
variable {K : Base} {fr fr' : Fr} {o : Oper} {f : FuncId}
theorem LW.callR {all : Array Oper} {l : List Oper} {Q : Exit → Fr → Prop} {us : List AV} {xs : List Ar} {frH : Fr} {R : AV → (Nat → List AV) → Prop} (hg : o.guard = none) (hc : callRef fr o.op = some (f, us)) (ht : fr.takeR us = some (xs, frH)) (hf : FunR P f xs R)
    (hn : ∀ v cs g', R v cs → fr.g ≤ g' → ∃ fr3 fr', Fr.giveR cs 0 us ⟨frH.s, g', frH.n⟩ = some fr3 ∧ fr3.dst o.dst v = some fr' ∧ LW P K all l fr' Q) : LW P K all (o :: l) fr Q := by
  rintro a w ⟨C, F, hs⟩
  unfold wpList
  have hwant : Region.wanted o (yielded all a.tmps) = true := by unfold Region.wanted; rw [hg]
  rw [hwant, if_pos rfl]
  refine .inl ?_
  have hw := hs.hw
  subst hw
  obtain ⟨fn, c, hfn, hb, hname, hlen, hbody⟩ := hf
  obtain ⟨cargs, hrun, hsz, hvr⟩ := callRef_sound hc hfn hb hname hs
  obtain ⟨F1, Fc, Fv0, hl, hvs, hF, hd, hmv⟩ := hs.rel.takeR us (cx := fun k => cargs.getD k Go.undef) hvr ht
  have hFvD : ∀ x, Fv0 x → C.D x := fun x hx => let ⟨t, h⟩ := hmv.own x hx; hs.rel.sub t x h
  have hFc : ∀ k x, k < xs.length → Fc k x → Fv0 x := fun k x hk hx => (hF x).2 ⟨k, by simp [hk], hx⟩
  let K1 : Base := ⟨C.w, Fv0, fun x => C.D x ∧ ¬ Fv0 x, C.η, C.g⟩
  have hst : St K1 (Fr.start (argsR (idAt us) 0 xs) C.g fn.ntmps) { tmps := cargs ++ Array.replicate (fn.ntmps - cargs.size) Go.undef, defers := [] } C.w := by
    refine ⟨C, fun t x => t < xs.length ∧ Fc t x, rfl, rfl, ⟨fun t => ?_, fun t t' x h1 h2 => hd t t' x (by simp [h1.1]) (by simp [h2.1]) h1.2 h2.2, fun t x hx => hFvD x (hFc t x hx.1 hx.2)⟩, hs.lt, fun t x hx => .inl (hFc t x hx.1 hx.2), fun x hx => ⟨hx.1, fun t ht => hx.2 (hFc t x ht.1 ht.2)⟩, Fram.refl _ _, rfl, ?_, Nat.le_refl _, fun _ _ => rfl⟩
    · rw [start_at, List.getD_eq_getElem?_getD, argsR_at]
      cases ha : xs[t]? with
      | none =>
        have : ¬ t < xs.length := by simpa using ha
        exact (VR.lit _ _ (.undef _)).fp fun x => ⟨fun h => absurd h.1 this, fun h => h.elim⟩
      | some v =>
        have hlt : t < xs.length := (List.getElem?_eq_some_iff.1 ha).1
        have hlt' : t < cargs.size := by rw [hsz, ← hl]; exact hlt
        simp only [Option.map_some, Option.getD_some, Nat.zero_add]
        have := hvs t v ha
        rw [Array.getD_eq_getD_getElem?] at this ⊢
        rw [Array.getElem?_append_left hlt']
        exact this.fp fun x => ⟨fun h => h.2, fun h => ⟨hlt, h⟩⟩
    · simp only [Array.size_append, Array.size_replicate, Fr.start]
      omega
  unfold Oper.wp
  rw [hrun, Oper.upon_enter]
  refine calls_of_wp (w := C.w) hfn hb (wp_mono (hbody K1 C.g (idAt us) _ _ hst) ?_)
  rintro e a2 w2 ⟨fr2, ⟨he, v, cs, hout, hbx, hR⟩, C2, F2, hs2⟩
  have hw2 := hs2.hw
  subst hw2
  obtain ⟨cv, Fvv, hres, hvv, hFvv⟩ := outR_slots (fn := fn) hs2.rel hout
  obtain ⟨fr3, fr', hgive, hdst, hnext⟩ := hn v cs C2.g hR (by rw [← hs.hg]; exact hs2.eta.1)
  let isB : Nat → Prop := fun k => ∃ c, xs[k]? = some (.b c)
  let FN : Nat → FP := fun k x => isB k ∧ F2 k x
  let D3 : FP := fun x => (C.D x ∧ ¬ Fv0 x) ∨ (∃ k, FN k x) ∨ Fvv x
  have hFvv2 : ∀ x, Fvv x → ∃ t, F2 t x := fun x hx => let ⟨t, _, h⟩ := hFvv x hx; ⟨t, h⟩
  have hD3 : ∀ x, D3 x → C2.D x := by
    rintro x (h | ⟨k, h⟩ | h)
    · exact (hs2.avoid x h).1
    · exact hs2.rel.sub k x h.2
    · obtain ⟨t, ht⟩ := hFvv2 x h; exact hs2.rel.sub t x ht
  have hnewC : ∀ t x, F2 t x → x < C.w.heap.size → Fv0 x := fun t x hx hlt => (hs2.new t x hx).resolve_right (by show ¬ C.w.heap.size ≤ x; omega)
  have hF1D : ∀ t x, F1 t x → C.D x ∧ ¬ Fv0 x := fun t x hx => ⟨hs.rel.sub t x (hmv.sub t x hx), hmv.dis t x hx⟩
  have hcompat : ∀ F : FP, (∀ x, F x → C.D x ∧ ¬ Fv0 x) → Compat C (C2.less D3) F := fun F hF => ⟨hs2.eta.1, hs2.eta.2, fun x hx => hs2.fram.block x (hs.lt x (hF x hx).1) (hF x hx).2, fun x hlt hD => ⟨hs2.fram.block x hlt (fun h => hD (hFvD x h)), by
    rintro (h | ⟨k, h⟩ | h)
    · exact hD h.1
    · exact hD (hFvD x (hnewC k x h.2 hlt))
    · obtain ⟨t, ht⟩ := hFvv2 x h; exact hD (hFvD x (hnewC t x ht hlt))⟩⟩
  have hrel1 : Rel (C2.less D3) ⟨frH.s, C2.g, frH.n⟩ (fun t => a.tmps.getD t Go.undef) F1 := ⟨fun t => (hmv.rel.vr t).mono (hcompat _ (hF1D t)), hmv.rel.dis, fun t x hx => .inl (hF1D t x hx)⟩
  have hF1F2 : ∀ t x k, F1 t x → ¬ F2 k x := fun t x k hx => (hs2.avoid x (hF1D t x hx)).2 k
  obtain ⟨F3, hrel3, hsub3, hg3, hn3⟩ := Rel.giveR (C := C2.less D3) (cs := cs) (Fc := FN) (fun k k' x h1 h2 => hs2.rel.dis k k' x h1.2 h2.2) (fun k x hx => .inr (.inl ⟨k, hx⟩)) us 0 hrel1 (fun k p id sz j q hk => by
    have hkl : k < xs.length := by rw [hl]; exact (List.getElem?_eq_some_iff.1 hk).1
    have hxk : xs[k]? = some xs[k] := List.getElem?_eq_getElem hkl
    obtain ⟨cells, hbk⟩ : ∃ cells, xs[k] = .b cells := by
      have hgen : ∀ (us : List AV) (fr : Fr) (xs : List Ar) (frH : Fr) (k : Nat), fr.takeR us = some (xs, frH) → us[k]? = some (.adr p id sz j q) → ∃ cells, xs[k]? = some (.b cells) := by
        intro us
        induction us with
        | nil => intro fr xs frH k _ hk; simp at hk
        | cons u us ih =>
          intro fr xs frH k hm hk
          cases k with
          | zero =>
            simp only [List.getElem?_cons_zero, Option.some.injEq] at hk
            subst hk
            simp only [Fr.takeR] at hm
            split at hm
            · split at hm
              · obtain ⟨r, _, h2⟩ := Option.map_eq_some_iff.1 hm
                simp only [Prod.mk.injEq] at h2
                rw [← h2.1]
                exact ⟨_, rfl⟩
              · cases hm
            · cases hm
          | succ k =>
            simp only [List.getElem?_cons_succ] at hk
            have : ∃ (fr1 : Fr) (y : Ar) (r : List Ar × Fr), fr1.takeR us = some r ∧ xs = y :: r.1 := by
              by_cases hadr : ∃ p id sz j k, u = .adr p id sz j k
              · obtain ⟨p, id, sz, j, k, rfl⟩ := hadr
                simp only [Fr.takeR] at hm
                split at hm
                · split at hm
                  · obtain ⟨r, h1, h2⟩ := Option.map_eq_some_iff.1 hm
                    simp only [Prod.mk.injEq] at h2
                    exact ⟨_, _, r, h1, h2.1.symm⟩
                  · cases hm
                · cases hm
              · have hm' : (fr.takeR us).map (fun r => (Ar.v u.frz :: r.1, r.2)) = some (xs, frH) := by
                  cases u <;> first | exact hm | exact absurd ⟨_, _, _, _, _, rfl⟩ hadr
                obtain ⟨r, h1, h2⟩ := Option.map_eq_some_iff.1 hm'
                simp only [Prod.mk.injEq] at h2
                exact ⟨_, _, r, h1, h2.1.symm⟩
            obtain ⟨fr1, y, r, h1, rfl⟩ := this
            obtain ⟨cells, h2⟩ := ih fr1 r.1 r.2 k h1 hk
            exact ⟨cells, by simpa using h2⟩
      obtain ⟨cells, h2⟩ := hgen us fr xs frH k ht hk
      rw [hxk] at h2
      exact ⟨cells, by injection h2⟩
    rw [hbk] at hxk
    have hid : idAt us k = id := by unfold idAt; rw [hk]
    have hvk := hs2.rel.vr k
    rw [(hbx k cells hxk).1, hid] at hvk
    refine ⟨a2.tmps.getD k Go.undef, ?_⟩
    rw [Nat.zero_add]
    exact (hvk.less hD3).fp fun x => ⟨fun h => h.2, fun h => ⟨⟨cells, hxk⟩, h⟩⟩) (fun t x k _ hx hc => hF1F2 t x k hx hc.2) hgive
  have hF3N : ∀ t x, F3 t x → K.D0 x ∨ K.w0.heap.size ≤ x := fun t x hx => by
    rcases hsub3 t x hx with h | ⟨k, h⟩
    · exact hs.new t x (hmv.sub t x h)
    · rcases hs2.new k x h.2 with h | h
      · obtain ⟨t', ht'⟩ := hmv.own x h; exact hs.new t' x ht'
      · exact .inr (Nat.le_trans hs.fram.size h)
  have hFvvN : ∀ x, Fvv x → K.D0 x ∨ K.w0.heap.size ≤ x := fun x hx => by
    obtain ⟨t, ht⟩ := hFvv2 x hx
    rcases hs2.new t x ht with h | h
    · obtain ⟨t', ht'⟩ := hmv.own x h; exact hs.new t' x ht'
    · exact .inr (Nat.le_trans hs.fram.size h)
  have hput : St K fr' (a.put o.dst cv) C2.w := by
    refine StC.put (C' := C2.less D3) (F' := F3) (fr := fr3) ⟨Nat.le_trans hs.eta.1 hs2.eta.1, fun id hid => (hs2.eta.2 id (Nat.lt_of_lt_of_le hid hs.eta.1)).trans (hs.eta.2 id hid)⟩ rfl hg3.symm hrel3 (hvv.less hD3) (fun t x h1 h2 => ?_) (fun x hx => .inr (.inr hx)) (fun x hx => ?_) hF3N hFvvN (fun x hx => ?_) ?_ hs.defers (hs.size.trans ?_) hdst
    · obtain ⟨t', hm', ht'⟩ := hFvv x h2
      rcases hsub3 t x h1 with h | ⟨k, ⟨c, hk⟩, h⟩
      · exact hF1F2 t x t' h ht'
      · have := hs2.rel.dis k t' x h ht'
        subst this
        exact (hbx k c hk).2 hm'
    · exact hs2.lt x (hD3 x hx)
    · have hx0 := hs.avoid x hx
      have hnv : ¬ Fv0 x := fun h => let ⟨t, ht⟩ := hmv.own x h; hx0.2 t ht
      have h2 := hs2.avoid x ⟨hx0.1, hnv⟩
      refine ⟨.inl ⟨hx0.1, hnv⟩, fun t ht => ?_, fun h => ?_⟩
      · rcases hsub3 t x ht with h | ⟨k, h⟩
        · exact hx0.2 t (hmv.sub t x h)
        · exact h2.2 k h.2
      · obtain ⟨t, ht⟩ := hFvv2 x h; exact h2.2 t ht
    · refine ⟨hs2.fram.os.trans hs.fram.os, hs2.fram.tape.trans hs.fram.tape, hs2.fram.output.trans hs.fram.output, Nat.le_trans hs.fram.size hs2.fram.size, fun x hx hD => (hs2.fram.block x (Nat.lt_of_lt_of_le hx hs.fram.size) fun h => ?_).trans (hs.fram.block x hx hD)⟩
      obtain ⟨t, ht⟩ := hmv.own x h
      exact (hs.new t x ht).elim hD (fun h => by omega)
    · rw [hn3]; exact hmv.n.symm
  rcases he with rfl | rfl
  · exact ⟨hs2.defers, cv, hres, hnext _ _ hput⟩
  · exact ⟨hs2.defers, cv, hres, hnext _ _ hput⟩
end
end
end Go.Proofs.Ytgoajlgkbcongaa.Vm
end
section
set_option linter.unusedVariables false
set_option linter.unusedSimpArgs false
namespace Go.Proofs.Ytgoajlgkbcongaa.Vm
open Go Go.RowKit Go.Proofs
/-- The frame tells these slots. -/
def Fr.Has (fr : Fr) (l : List (Nat × AV)) (n : Nat) : Prop := fr.n = n ∧ okL fr l
theorem Fr.Has.le {fr : Fr} {l : List (Nat × AV)} {n : Nat} (h : fr.Has l n) : fr.Le (Fr.of l fr.g n) := le_of h.1 rfl h.2
section
variable {P : Program} {K : Base} {fr : Fr} {Q : Exit → Fr → Prop} {n : Nat}
theorem AW.has {c : Code} (l : List (Nat × AV)) (h : fr.Has l n) (hq : ∀ g, AW P K c (Fr.of l g n) Q) : AW P K c fr Q := AW.weak h.le (hq _)
/-- A join: the slots that are kept. -/
theorem AW.join {x y : Code} (l : List (Nat × AV)) (n : Nat) (h : AW P K x fr (thenQ (fun f => f.Has l n) Q)) (hq : ∀ g, AW P K y (Fr.of l g n) Q) : AW P K (.seq x y) fr Q :=
  AW.seq1 (R := fun f => f.Has l n) h fun f hf => AW.weak hf.le (hq _)
/-- A join at which something is known. -/
theorem AW.joinX {X : Type} {x y : Code} (L : X → List (Nat × AV)) (inv : X → Prop) (n : Nat) (h : AW P K x fr (thenQ (fun f => ∃ z, inv z ∧ f.Has (L z) n) Q)) (hq : ∀ z g, inv z → AW P K y (Fr.of (L z) g n) Q) : AW P K (.seq x y) fr Q :=
  AW.seq1 (R := fun f => ∃ z, inv z ∧ f.Has (L z) n) h fun f ⟨z, hz, hf⟩ => AW.weak hf.le (hq z _ hz)
theorem AW.loopH {X : Type} {c : Code} (M : X → Nat) (L : X → List (Nat × AV)) (inv : X → Prop) (n : Nat) (h0 : ∃ x, inv x ∧ fr.Has (L x) n)
    (step : ∀ x g, inv x → AW P K c (Fr.of (L x) g n) (thenQ (fun f => ∃ x', M x' < M x ∧ inv x' ∧ f.Has (L x') n) Q)) : AW P K (.loop c) fr Q := by
  obtain ⟨x0, hi0, hl0⟩ := h0
  refine AW.loop (fun m f => ∃ x g, m = M x ∧ inv x ∧ f.Le (Fr.of (L x) g n)) (M x0) ⟨x0, _, rfl, hi0, hl0.le⟩ ?_
  rintro m f ⟨x, g, rfl, hinv, hle⟩
  refine AW.weak hle ((step x g hinv).mono fun e f' h => ?_)
  cases e with
  | normal =>
    obtain ⟨x', h0, h1, h2⟩ := h
    exact ⟨M x', h0, x', _, rfl, h1, h2.le⟩
  | exit k => exact h
  | ret => exact h
  | goto k => exact h
  | panic k => exact h
  | outgrown => exact h
theorem AW.forH {X : Type} {c : Code} (N : Nat) (L : Nat → X → List (Nat × AV)) (inv : Nat → X → Prop) (n : Nat) (h0 : ∃ x, inv 0 x ∧ fr.Has (L 0 x) n)
    (step : ∀ i x g, i ≤ N → inv i x → AW P K c (Fr.of (L i x) g n) (thenQ (fun f => i < N ∧ ∃ x', inv (i + 1) x' ∧ f.Has (L (i + 1) x') n) Q)) : AW P K (.loop c) fr Q := by
  obtain ⟨x0, hi0, hl0⟩ := h0
  refine AW.loopH (X := Nat × X) (fun p => N - p.1) (fun p => L p.1 p.2) (fun p => p.1 ≤ N ∧ inv p.1 p.2) n ⟨(0, x0), ⟨Nat.zero_le _, hi0⟩, hl0⟩ ?_
  rintro ⟨i, x⟩ g ⟨hi, hinv⟩
  refine (step i x g hi hinv).mono fun e f' h => ?_
  cases e with
  | normal =>
    obtain ⟨hlt, x', h1, h2⟩ := h
    exact ⟨(i + 1, x'), by show N - (i + 1) < N - i; omega, ⟨hlt, h1⟩, h2⟩
  | exit k => exact h
  | ret => exact h
  | goto k => exact h
  | panic k => exact h
  | outgrown => exact h
end
/-- The truth value of a statement. -/
noncomputable def dec (p : Prop) : Bool := @decide p (Classical.propDecidable p)
theorem dec_t {p : Prop} (h : p) : true = dec p := by unfold dec; simp [h]
theorem dec_f {p : Prop} (h : ¬ p) : false = dec p := by unfold dec; simp [h]
theorem dec_true {p : Prop} : dec p = true ↔ p := by unfold dec; simp
theorem dec_false {p : Prop} : dec p = false ↔ ¬ p := by unfold dec; simp
theorem dec_iff {p q : Prop} (h : p ↔ q) : dec p = dec q := by rw [propext h]
theorem dec_decide {p : Prop} [Decidable p] : decide p = dec p := by unfold dec; congr
theorem take_all {α : Type} {l : List α} {i : Nat} {x : α} {p : α → Prop} (h : ∀ y ∈ l.take i, p y) (hx : l[i]? = some x) (hp : p x) : ∀ y ∈ l.take (i + 1), p y := by
  rw [List.take_add_one, hx]
  intro y hy
  simp only [Option.toList_some, List.mem_append, List.mem_singleton] at hy
  exact hy.elim (h y) (fun e => e ▸ hp)
theorem take_end {α : Type} {l : List α} {i : Nat} {p : α → Prop} (h : ∀ y ∈ l.take i, p y) (hi : l.length ≤ i) : ∀ y ∈ l, p y := by rwa [List.take_of_length_le hi] at h
theorem get_of_lt {α : Type} {l : List α} {i : Nat} (h : i < l.length) : ∃ x, l[i]? = some x := ⟨_, List.getElem?_eq_getElem h⟩
/-- Up to here, by places. -/
theorem all_lt {p : Nat → Prop} {i : Nat} (h : ∀ j, j < i → p j) (hp : p i) : ∀ j, j < i + 1 → p j := fun j hj => by
  rcases Nat.lt_or_ge j i with h1 | h1
  · exact h j h1
  · rwa [show j = i by omega]
theorem lt_dec {i n : Nat} (h : decide ((i : Int) < (n : Int)) = true) : i < n := by have := of_decide_eq_true h; omega
theorem ge_dec {i n : Nat} (h : decide ((i : Int) < (n : Int)) = false) : n ≤ i := by have := of_decide_eq_false h; omega
theorem step_int (i : Nat) (h : i < 9223372036854775807) : IntKind.i64.wrap ((i : Int) + 1) = ((i + 1 : Nat) : Int) := by
  rw [wrap_in _ (by omega) (by omega)]; omega
theorem map_get {α β : Type} {l : List α} {i : Nat} {x : α} (f : α → β) (h : l[i]? = some x) : (l.map f)[i]? = some (f x) := by simp [h]
end Go.Proofs.Ytgoajlgkbcongaa.Vm
end
section
set_option linter.unusedVariables false
set_option linter.unusedSimpArgs false
namespace Go.Proofs.Ytgoajlgkbcongaa.Vm
open Go Go.RowKit
def dstOf (ops : Array Oper) (i : Nat) : Nat := ((ops[i]?).bind (·.dst)).getD 0
def slotsOf (ops : Array Oper) (hd : List Nat) : List Nat := hd.map (dstOf ops)
/-- The heads among some operations, by their places. -/
def hpos (hd : List Nat) (L : List Nat) : List Nat := (List.range hd.length).filter fun q => L.contains (hd.getD q 0)
def drawB2 (ops : Array Oper) (hd ch : List Nat) (A : List (List Nat)) : Bool :=
  (List.range ops.size).all (fun i => hd.contains i || ch.contains i) && hd.all (fun i => decide (i < ops.size) && !ch.contains i) && ch.all (fun i => decide (i < ops.size)) &&
  hd.all (fun i => ((ops[i]?).bind (·.dst)).isSome) && decide hd.Nodup && decide ch.Nodup && decide (slotsOf ops hd).Nodup &&
  (List.range ops.size).all (fun i => (preds ops i).all (fun e => decide (e < i)) && ((A.getD i []).all fun j => decide (j < i) && (preds ops i).any fun e => e == j || (A.getD e []).contains j)) &&
  (List.range ch.length).all (fun p => (List.range p).all fun q => (A.getD (ch.getD p 0) []).contains (ch.getD q 0))
/-- May a head come when p of the chain have come? -/
def allowB (ch : List Nat) (A : List (List Nat)) (p i : Nat) : Bool := (ch.take p).all (fun c => !(A.getD c []).contains i) && (A.getD i []).all (fun c => !ch.contains c || (ch.take p).contains c)
def pairsOf (hd ch : List Nat) (A : List (List Nat)) : List (Nat × Nat) := (List.range (ch.length + 1)).flatMap fun p => ((List.range hd.length).filter fun q => allowB ch A p (hd.getD q 0)).map fun q => (p, q)
structure Draw2 (ops : Array Oper) (hd ch : List Nat) (A : List (List Nat)) : Prop where
  all : ∀ i, i < ops.size → i ∈ hd ∨ i ∈ ch
  hdl : ∀ i ∈ hd, i < ops.size ∧ i ∉ ch
  chl : ∀ i ∈ ch, i < ops.size
  dst : ∀ i ∈ hd, ∃ o d, ops[i]? = some o ∧ o.dst = some d ∧ dstOf ops i = d
  nodup : hd.Nodup
  cnodup : ch.Nodup
  snodup : (slotsOf ops hd).Nodup
  acyc : ∀ i, i < ops.size → ∀ e ∈ preds ops i, e < i
  anc : ∀ i, i < ops.size → ∀ j ∈ A.getD i [], j < i ∧ ∃ e ∈ preds ops i, e = j ∨ j ∈ A.getD e []
  chain : ∀ p q, p < ch.length → q < p → ch.getD q 0 ∈ A.getD (ch.getD p 0) []
theorem Draw2.of {ops : Array Oper} {hd ch : List Nat} {A : List (List Nat)} (h : drawB2 ops hd ch A = true) : Draw2 ops hd ch A := by
  simp only [drawB2, Bool.and_eq_true, decide_eq_true_eq, List.all_eq_true, List.mem_range, Bool.or_eq_true, List.any_eq_true, beq_iff_eq, List.contains_iff_mem, Bool.not_eq_true'] at h
  obtain ⟨⟨⟨⟨⟨⟨⟨⟨h1, h2⟩, h3⟩, h4⟩, h5⟩, h6⟩, h7⟩, h8⟩, h9⟩ := h
  refine ⟨h1, fun i hi => ⟨(h2 i hi).1, fun h => by have := (h2 i hi).2; simp [h] at this⟩, h3, fun i hi => ?_, h5, h6, h7, fun i hi e he => (h8 i hi).1 e he, fun i hi j hj => ⟨((h8 i hi).2 j hj).1, ?_⟩, fun p q hp hq => h9 p hp q hq⟩
  · have := h4 i hi
    cases ho : ops[i]? with
    | none => simp [ho] at this
    | some o =>
      simp only [ho, Option.bind_some] at this
      obtain ⟨d, hd⟩ := Option.isSome_iff_exists.1 this
      exact ⟨o, d, rfl, hd, by simp [dstOf, ho, hd]⟩
  · obtain ⟨e, he, hh⟩ := ((h8 i hi).2 j hj).2
    exact ⟨e, he, hh⟩
section
variable {P : Program} {K : Base} {ops : Array Oper} {hd ch : List Nat} {A : List (List Nat)} {vs : List AV}
theorem ready_anc2 (H : Draw2 ops hd ch A) {listed : Array Bool} (hI : DrawInv ops A listed) {i : Nat} (hi : i ∈ Region.ready .any ops listed) : ∀ j ∈ A.getD i [], listed.getD j false = true := by
  obtain ⟨h1, h2, h3⟩ := mem_ready'.1 hi
  intro j hj
  obtain ⟨_, e, he, hh⟩ := H.anc i h1 j hj
  rcases hh with rfl | hh
  · exact h3 _ he
  · exact hI.down e (h3 e he) j hh
theorem put2 (H : Draw2 ops hd ch A) {listed : Array Bool} (hI : DrawInv ops A listed) {i : Nat} (hi : i ∈ Region.ready .any ops listed) : DrawInv ops A (listed.setIfInBounds i true) := by
  have hi' : i < listed.size := by rw [hI.size]; exact (mem_ready'.1 hi).1
  refine ⟨by simp [hI.size], fun k hk j hj => ?_⟩
  rw [getD_put hi'] at hk ⊢
  by_cases e : k = i
  · subst e
    by_cases e' : j = k
    · simp [e']
    · rw [if_neg e']; exact ready_anc2 H hI hi j hj
  · rw [if_neg e] at hk
    by_cases e' : j = i
    · simp [e']
    · rw [if_neg e']; exact hI.down k hk j hj
theorem none_ready2 (H : Draw2 ops hd ch A) {listed : Array Bool} (hI : DrawInv ops A listed) (hr : Region.ready .any ops listed = []) : ∀ i, i < ops.size → listed.getD i false = true := by
  intro i
  induction i using Nat.strongRecOn with
  | _ i ih =>
    intro hi
    by_cases hl : listed.getD i false = true
    · exact hl
    · have : i ∈ Region.ready .any ops listed := mem_ready'.2 ⟨hi, by rw [getD_both' (by rw [hI.size]; exact hi)]; simpa using hl, fun e he => ih e (H.acyc i hi e he) (Nat.lt_trans (H.acyc i hi e he) hi)⟩
      rw [hr] at this
      cases this
theorem mem_hpos {L : List Nat} {q : Nat} : q ∈ hpos hd L ↔ q < hd.length ∧ hd.getD q 0 ∈ L := by
  unfold hpos; simp only [List.mem_filter, List.mem_range, List.contains_iff_mem]
/-- A frame some of whose head slots are told, as one where each is told something. -/
theorem see_all (base : Fr) (ds : List Nat) (vs : List AV) (S : List Nat) (hS : ∀ t ∈ ds, ds.idxOf t < ds.length) :
    base.see ds vs S = base.see ds ((List.range ds.length).map fun q => if S.contains q = true then vs.getD q .undef else .undef) (List.range ds.length) := by
  unfold Fr.see
  simp only [Fr.mk.injEq, and_true]
  funext t
  by_cases h1 : ds.contains t = true
  · simp only [h1, if_true]
    have hlt := hS t (by simpa using h1)
    have h2 : (List.range ds.length).contains (ds.idxOf t) = true := by simpa using hlt
    rw [if_pos h2, List.getD_eq_getElem?_getD (l := List.map _ _), List.getElem?_map, List.getElem?_range hlt]
    rfl
  · simp only [h1]; rfl
theorem nodup_inj {l : List Nat} (h : l.Nodup) {i j : Nat} (hi : i < l.length) (hj : j < l.length) (e : l[i] = l[j]) : i = j := by
  have hp := List.pairwise_iff_getElem.1 h
  rcases Nat.lt_trichotomy i j with hlt | rfl | hlt
  · exact absurd e (hp i j hi hj hlt)
  · rfl
  · exact absurd e.symm (hp j i hj hi hlt)
theorem AW.draw2 {id : Nat} {Q : Exit → Fr → Prop} (hm : P.follows .mixedOrders = true) (hB : drawB2 ops hd ch A = true) (base : Nat → Fr) (hN : ∀ p, ∀ d ∈ slotsOf ops hd, d < (base p).n)
    (hq : ∀ p q, p ≤ ch.length → q < hd.length → allowB ch A p (hd.getD q 0) = true → ∀ o, ops[hd.getD q 0]? = some o → HeadOK P ops ((base p).see (slotsOf ops hd) vs (hpos hd (A.getD (hd.getD q 0) []))) o (vs.getD q .undef))
    (hc : ∀ p, p < ch.length → ∀ o, ops[ch.getD p 0]? = some o → o.guard = none ∧ ∀ xs : List AV, xs.length = hd.length → (∀ q ∈ hpos hd (A.getD (ch.getD p 0) []), xs.getD q .undef = vs.getD q .undef) →
      ∃ fr', OpS P K o ((base p).see (slotsOf ops hd) xs (List.range hd.length)) fr' ∧ fr'.Le ((base (p + 1)).see (slotsOf ops hd) xs (List.range hd.length)))
    (hf : Q .normal ((base ch.length).see (slotsOf ops hd) vs (List.range hd.length))) : AW P K (.region id ops true) (base 0) Q := by
  have H := Draw2.of hB
  have hds : (slotsOf ops hd).length = hd.length := by simp [slotsOf]
  intro a w hs
  refine wp_region_any hm ?_
  have hs := (hs.drew (w.drawn + 1)).weak (Fr.le_see (ds := slotsOf ops hd) (vs := vs))
  have getD_lt : ∀ {l : List Nat} {q : Nat}, q < l.length → l[q]? = some (l.getD q 0) := fun {l} {q} h => by rw [List.getElem?_eq_getElem h, List.getD_eq_getElem?_getD, List.getElem?_eq_getElem h]; rfl
  have key : ∀ (m : Nat) (listed : Array Bool) (a : Act) (w : World) (p : Nat), DrawInv ops A listed → p ≤ ch.length → (∀ q, q < ch.length → (listed.getD (ch.getD q 0) false = true ↔ q < p)) →
      ((List.range ops.size).filter fun i => !listed.getD i false).length = m → St K ((base p).see (slotsOf ops hd) vs (hpos hd (listedL listed))) a w → wpAny P .any ops (Out K Q) m listed a w := by
    intro m
    induction m with
    | zero =>
      intro listed a w p hI hp hpl hc0 hs
      have hall : ∀ i, i < ops.size → listed.getD i false = true := fun i hi => by
        have := List.length_eq_zero_iff.1 hc0
        have h2 : i ∉ (List.range ops.size).filter fun i => !listed.getD i false := by rw [this]; simp
        simpa [hi] using h2
      have hpe : p = ch.length := by
        rcases Nat.lt_or_ge p ch.length with h | h
        · have := (hpl p h).1 (hall _ (H.chl _ (by rw [List.getD_eq_getElem?_getD, List.getElem?_eq_getElem h]; exact List.getElem_mem h)))
          omega
        · omega
      subst hpe
      refine ⟨List.eq_nil_iff_forall_not_mem.2 fun i hi => ?_, _, hf, hs.weak (Fr.see_le fun j hj => ?_)⟩
      · obtain ⟨h1, h2, _⟩ := mem_ready'.1 hi
        rw [getD_both' (by rw [hI.size]; exact h1), hall i h1] at h2
        cases h2
      · have hj' : j < hd.length := by simpa using hj
        exact mem_hpos.2 ⟨hj', mem_listedL.2 (hall _ (H.hdl _ (by rw [List.getD_eq_getElem?_getD, List.getElem?_eq_getElem hj']; exact List.getElem_mem hj')).1)⟩
    | succ m ih =>
      intro listed a w p hI hp hpl hc0 hs
      obtain ⟨k, hk⟩ : ∃ k, k ∈ (List.range ops.size).filter fun i => !listed.getD i false := by
        cases hl : (List.range ops.size).filter fun i => !listed.getD i false with
        | nil => rw [hl] at hc0; cases hc0
        | cons x xs => exact ⟨x, by simp⟩
      simp only [List.mem_filter, List.mem_range, Bool.not_eq_true'] at hk
      refine ⟨fun hr => ?_, fun i hi => ?_⟩
      · have := none_ready2 H hI hr k hk.1
        rw [hk.2] at this
        cases this
      · obtain ⟨h1, h2, h3⟩ := mem_ready'.1 hi
        rw [getD_both' (by rw [hI.size]; exact h1)] at h2
        have hanc := ready_anc2 H hI hi
        have hI' := put2 H hI hi
        have hlsz : i < listed.size := by rw [hI.size]; exact h1
        have hc' : ((List.range ops.size).filter fun j => !(listed.setIfInBounds i true).getD j false).length = m := by
          have : ((List.range ops.size).filter fun j => !(listed.setIfInBounds i true).getD j false) = ((List.range ops.size).filter fun j => !listed.getD j false).erase i := by
            rw [List.Nodup.erase_eq_filter (List.Pairwise.filter _ List.nodup_range) i, List.filter_filter]
            refine List.filter_congr fun j _ => ?_
            rw [getD_put hlsz]
            by_cases e : j = i
            · simp [e]
            · simp [e]
          rw [this, List.length_erase_of_mem (by rw [List.mem_filter, List.mem_range, h2]; exact ⟨h1, rfl⟩), hc0]
          omega
        have hopsi : ∃ o, ops[i]? = some o := ⟨_, Array.getElem?_eq_getElem h1⟩
        obtain ⟨o, ho⟩ := hopsi
        unfold wpOp
        simp only [ho]
        rcases H.all i h1 with hih | hic
        · obtain ⟨q, hqlt, hqi⟩ := List.mem_iff_getElem.1 hih
          have hgq : hd.getD q 0 = i := by rw [List.getD_eq_getElem?_getD, List.getElem?_eq_getElem hqlt]; exact hqi
          obtain ⟨o', d, ho', hod, hdd⟩ := H.dst i hih
          rw [ho] at ho'; cases ho'
          have hslot : (slotsOf ops hd)[q]? = some d := by simp [slotsOf, List.getElem?_eq_getElem hqlt, hqi, hdd]
          have hdn : d < (base p).n := hN p d (List.mem_of_getElem? hslot)
          have hallow : allowB ch A p (hd.getD q 0) = true := by
            rw [hgq]
            simp only [allowB, Bool.and_eq_true, List.all_eq_true, Bool.not_eq_true', Bool.or_eq_true]
            refine ⟨fun c hcm => ?_, fun c hca => ?_⟩
            · obtain ⟨r, hr, hrc⟩ := List.mem_iff_getElem.1 hcm
              simp only [List.length_take] at hr
              simp only [List.getElem_take] at hrc
              have hcl : listed.getD c false = true := by
                have := (hpl r (by omega)).2 (by omega)
                rw [List.getD_eq_getElem?_getD (l := ch), List.getElem?_eq_getElem (by omega)] at this
                simp only [Option.getD_some] at this
                rw [hrc] at this; exact this
              by_cases hh : (A.getD c []).contains i = true
              · have := hI.down c hcl i (by simpa using hh); rw [h2] at this; cases this
              · simpa using hh
            · by_cases hh : ch.contains c = true
              · right
                obtain ⟨r, hr, hrc⟩ := List.mem_iff_getElem.1 (show c ∈ ch by simpa using hh)
                have hcl := hanc c hca
                have hrp := (hpl r hr).1 (by rw [List.getD_eq_getElem?_getD (l := ch), List.getElem?_eq_getElem hr]; simp only [Option.getD_some]; rw [hrc]; exact hcl)
                simp only [List.contains_iff_mem]
                exact List.mem_iff_getElem.2 ⟨r, by simp; omega, by simp [hrc]⟩
              · left; simpa using hh
          have hh := hq p q hp hqlt hallow o (by rw [hgq]; exact ho)
          rw [hgq] at hh
          have hle : ((base p).see (slotsOf ops hd) vs (hpos hd (listedL listed))).Le ((base p).see (slotsOf ops hd) vs (hpos hd (A.getD i []))) := Fr.see_le fun j hj => by
            obtain ⟨j1, j2⟩ := mem_hpos.1 hj
            exact mem_hpos.2 ⟨j1, mem_listedL.2 (hanc _ j2)⟩
          have hput : ((base p).see (slotsOf ops hd) vs (hpos hd (listedL listed))).dst o.dst (vs.getD q .undef) = some ((base p).see (slotsOf ops hd) vs (hpos hd (listedL (listed.setIfInBounds i true)))) := by
            rw [hod]
            refine see_put H.snodup hslot rfl hdn fun j hj => ?_
            rw [hds] at hj
            rw [mem_hpos, mem_hpos, mem_listedL, mem_listedL, getD_put hlsz]
            by_cases e : j = q
            · subst e; exact ⟨fun _ => .inl rfl, fun _ => ⟨hqlt, by rw [if_pos hgq]⟩⟩
            · have hne : hd.getD j 0 ≠ i := fun h => e (by
                rw [List.getD_eq_getElem?_getD, List.getElem?_eq_getElem hj] at h
                simp only [Option.getD_some] at h
                exact nodup_inj H.nodup hj hqlt (h.trans hqi.symm))
              rw [if_neg hne]; simp [e]
          have hpl' : ∀ r, r < ch.length → ((listed.setIfInBounds i true).getD (ch.getD r 0) false = true ↔ r < p) := fun r hr => by
            rw [getD_put hlsz, if_neg (fun h => (H.hdl i hih).2 (by rw [← h, List.getD_eq_getElem?_getD, List.getElem?_eq_getElem hr]; exact List.getElem_mem hr))]
            exact hpl r hr
          unfold HeadOK at hh
          cases hg : o.guard with
          | none =>
            simp only [hg] at hh
            have hw : Region.wanted o (yielded ops a.tmps) = true := by unfold Region.wanted; rw [hg]
            rw [hw, if_pos rfl]
            exact .inl (hh.step hle hput a w hs _ _ fun a' w' hs' => ih _ a' w' p hI' hp hpl' hc' hs')
          | some jw =>
            obtain ⟨j, want⟩ := jw
            simp only [hg] at hh
            obtain ⟨g, hj, hh⟩ := hh
            rcases hh with ⟨b, hgb, hyes, hno⟩ | ⟨hgb, hno⟩
            rotate_left
            · have hb : ((base p).see (slotsOf ops hd) vs (hpos hd (listedL listed))).s g = .tup [] := by
                rcases hle.s g with h | h
                · rw [← h, hgb]
                · rw [h] at hgb; cases hgb
              have hyi := yielded_none hj hs hb
              have hwv : Region.wanted o (yielded ops a.tmps) = false := by unfold Region.wanted; rw [hg]; simp only [hyi]; rfl
              rw [hwv, if_neg (by simp)]
              refine ih _ _ w p hI' hp hpl' hc' (hs.undef ?_)
              rw [← hno]; exact hput
            have hb : ((base p).see (slotsOf ops hd) vs (hpos hd (listedL listed))).s g = .bool b := by
              rcases hle.s g with h | h
              · rw [← h, hgb]
              · rw [h] at hgb; cases hgb
            have hyi := yielded_of hj hs hb
            have hwv : Region.wanted o (yielded ops a.tmps) = (b == want) := by unfold Region.wanted; rw [hg]; simp only [hyi]; cases b <;> cases want <;> rfl
            by_cases e : b = want
            · rw [hwv, e, beq_self_eq_true, if_pos rfl]
              exact .inl ((hyes e).step hle hput a w hs _ _ fun a' w' hs' => ih _ a' w' p hI' hp hpl' hc' hs')
            · rw [hwv, if_neg (by simpa using e)]
              refine ih _ _ w p hI' hp hpl' hc' (hs.undef ?_)
              rw [← hno e]; exact hput
        · obtain ⟨r, hrlt, hri⟩ := List.mem_iff_getElem.1 hic
          have hgr : ch.getD r 0 = i := by rw [List.getD_eq_getElem?_getD, List.getElem?_eq_getElem hrlt]; exact hri
          have hrp : r = p := by
            have h4 : ¬ r < p := fun h => by have := (hpl r hrlt).2 h; rw [hgr, h2] at this; cases this
            rcases Nat.lt_or_ge p r with h | h
            · have := hanc _ (hgr ▸ H.chain r p hrlt h)
              have := (hpl p (by omega)).1 this
              omega
            · omega
          subst hrp
          obtain ⟨hg, hop⟩ := hc r hrlt o (by rw [hgr]; exact ho)
          have hw : Region.wanted o (yielded ops a.tmps) = true := by unfold Region.wanted; rw [hg]
          rw [hw, if_pos rfl]
          have hidx : ∀ t ∈ slotsOf ops hd, (slotsOf ops hd).idxOf t < (slotsOf ops hd).length := fun t ht => List.idxOf_lt_length_iff.2 ht
          obtain ⟨fr', hop1, hop2⟩ := hop ((List.range (slotsOf ops hd).length).map fun q => if (hpos hd (listedL listed)).contains q = true then vs.getD q .undef else .undef) (by simp [hds]) (fun q hqm => by
            obtain ⟨q1, q2⟩ := mem_hpos.1 hqm
            have : (hpos hd (listedL listed)).contains q = true := by
              simp only [List.contains_iff_mem]
              exact mem_hpos.2 ⟨q1, mem_listedL.2 (hanc _ (by rw [← hgr]; exact q2))⟩
            rw [List.getD_eq_getElem?_getD (l := List.map _ _), List.getElem?_map, List.getElem?_range (by rw [hds]; exact q1)]
            simp only [Option.map_some, Option.getD_some]
            rw [if_pos this])
          rw [see_all (base r) _ vs _ hidx, hds] at hs
          rw [hds] at hop1 hop2
          refine .inl (hop1 a w hs _ _ fun a' w' hs' => ih _ a' w' (r + 1) hI' hrlt (fun q hql => ?_) hc' ?_)
          · rw [getD_put hlsz]
            by_cases e : ch.getD q 0 = i
            · rw [if_pos e]
              have : q = r := by
                rw [List.getD_eq_getElem?_getD, List.getElem?_eq_getElem hql] at e
                simp only [Option.getD_some] at e
                exact nodup_inj H.cnodup hql hrlt (e.trans hri.symm)
              simp [this]
            · rw [if_neg e, hpl q hql]
              have : q ≠ r := fun h => e (by rw [h]; exact hgr)
              omega
          · have hs2 := hs'.weak hop2
            rw [see_all (base (r + 1)) _ vs _ hidx, hds]
            have h8 : (List.range hd.length).map (fun q => if (hpos hd (listedL (listed.setIfInBounds i true))).contains q = true then vs.getD q .undef else .undef) = (List.range hd.length).map (fun q => if (hpos hd (listedL listed)).contains q = true then vs.getD q .undef else .undef) := List.map_congr_left fun q hqm => by
              have hqlt : q < hd.length := by simpa using hqm
              have h7 : (hpos hd (listedL (listed.setIfInBounds i true))).contains q = (hpos hd (listedL listed)).contains q := by
                rw [Bool.eq_iff_iff]
                simp only [List.contains_iff_mem, mem_hpos, mem_listedL, getD_put hlsz]
                have hne : hd.getD q 0 ≠ i := fun h => (H.hdl (hd.getD q 0) (by rw [List.getD_eq_getElem?_getD, List.getElem?_eq_getElem hqlt]; exact List.getElem_mem hqlt)).2 (by rw [h]; exact hic)
                rw [if_neg hne]
              rw [h7]
            rw [h8]
            exact hs2
  have hfil : (List.range ops.size).filter (fun i => !(Array.replicate ops.size false).getD i false) = List.range ops.size := List.filter_eq_self.2 fun i _ => by simp [Array.getD]
  have := key ops.size (Array.replicate ops.size false) a { w with drawn := w.drawn + 1 } 0 ⟨by simp, fun i hi => by simp [Array.getD] at hi⟩ (Nat.zero_le _) (fun q hq => by simp [Array.getD]) (by rw [hfil]; simp) (by
    have : listedL (Array.replicate ops.size false) = [] := by
      unfold listedL
      refine List.filter_eq_nil_iff.2 fun i hi => ?_
      simp [Array.getD]
    rw [this]
    have h0 : hpos hd [] = [] := by unfold hpos; simp
    rw [h0]
    exact hs)
  exact this
theorem at_drop {ops : Array Oper} {i : Nat} {o : Oper} {r : List Oper} (h : ops.toList.drop i = o :: r) : ops[i]? = some o := by
  have h2 : (ops.toList.drop i)[0]? = some o := by rw [h]; rfl
  rw [List.getElem?_drop] at h2
  simpa using h2
/-- A head's value, at a frame. -/
def HeadAt (P : Program) (ops : Array Oper) (f : Fr) (i : Nat) (v : AV) : Prop := ∀ o, ops[i]? = some o → HeadOK P ops f o v
theorem headX {f : Fr} {i : Nat} {v : AV} {o : Oper} {r : List Oper} (hl : ops.toList.drop i = o :: r) (hg : o.guard = none) (h : xq P f o.op = some v) : HeadAt P ops f i v := by
  intro o' ho'
  rw [at_drop hl] at ho'
  cases ho'
  unfold HeadOK
  rw [hg]
  exact xq_sound h
theorem headC {f : Fr} {i : Nat} {v : AV} {o : Oper} {c : FuncId × List Operand} {us : List AV} {r : List Oper} (hl : ops.toList.drop i = o :: r) (hg : o.guard = none) (hc : callOf o.op = some c) (ha : xargs f (c.2.map f.ev) v = some us) (hob : Ob.ok P ⟨c.1, us, v⟩) : HeadAt P ops f i v := by
  intro o' ho'
  rw [at_drop hl] at ho'
  cases ho'
  unfold HeadOK
  rw [hg]
  exact call_quiet hc ha hob
/-- One of the chain. -/
def ChainAt (P : Program) (K : Base) (ops : Array Oper) (ds : List Nat) (b b' : Fr) (i : Nat) (an : List (Nat × AV)) (m : Nat) : Prop :=
  ∀ o, ops[i]? = some o → o.guard = none ∧ ∀ xs : List AV, xs.length = m → (∀ q ∈ an, xs.getD q.1 .undef = q.2) → ∃ fr', OpS P K o (b.see ds xs (List.range m)) fr' ∧ fr'.Le (b'.see ds xs (List.range m))
theorem chainX {ds : List Nat} {l l' : List (Nat × AV)} {g g' N i m : Nat} {an : List (Nat × AV)} {o : Oper} {r : List Oper} (hl : ops.toList.drop i = o :: r) (hg : o.guard = none)
    (h : ∀ xs : List AV, xs.length = m → (∀ q ∈ an, xs.getD q.1 .undef = q.2) → ∃ fr', xe P ((Fr.of l g N).see ds xs (List.range m)) o.dst o.op = some fr' ∧ fr'.n = N ∧ fr'.g = g' ∧ okL fr' l' ∧ ∀ t ∈ ds, fr'.s t = ((Fr.of l g N).see ds xs (List.range m)).s t) : ChainAt P K ops ds (Fr.of l g N) (Fr.of l' g' N) i an m := by
  intro o' ho'
  rw [at_drop hl] at ho'
  cases ho'
  refine ⟨hg, fun xs h1 h2 => ?_⟩
  obtain ⟨fr', hx, hn, hgg, hl, hds⟩ := h xs h1 h2
  refine ⟨fr', xe_sound hx, hn.symm, hgg.symm, fun t => ?_⟩
  by_cases hc : ds.contains t = true
  · left
    rw [hds t (by simpa using hc)]
    simp only [Fr.see, hc, if_true]
  · have := (le_of hn hgg hl).s t
    simp only [Fr.see, hc]
    exact this
theorem fa_nil {α : Type} {p : α → Prop} : ∀ y ∈ ([] : List α), p y := fun y h => by cases h
theorem fa_cons {α : Type} {p : α → Prop} {x : α} {l : List α} (h : p x) (k : ∀ y ∈ l, p y) : ∀ y ∈ x :: l, p y := fun y hy => by
  rcases List.mem_cons.1 hy with rfl | hy
  · exact h
  · exact k y hy
theorem fa_c {α : Type} {p : α → Prop} {x : α} {l : List α} : (∀ y ∈ x :: l, p y) = (p x ∧ ∀ y ∈ l, p y) := propext ⟨fun h => ⟨h x (by simp), fun y hy => h y (by simp [hy])⟩, fun h => fa_cons h.1 h.2⟩
theorem fa_n {α : Type} {p : α → Prop} : (∀ y ∈ ([] : List α), p y) = True := eq_true fa_nil
theorem AW.drw2 {id N g0 : Nat} {Q : Exit → Fr → Prop} {l0 : List (Nat × AV)} (hd ch : List Nat) (A : List (List Nat)) (ds : List Nat) (vs : List AV) (bs : List (List (Nat × AV) × Nat)) (hm : P.follows .mixedOrders = true) (hB : drawB2 ops hd ch A = true) (hds : slotsOf ops hd = ds) (hdn : (ds.all fun d => decide (d < N)) = true)
    (hb : bs.head? = some (l0, g0)) (prs : List (Nat × Nat)) (hp : pairsOf hd ch A = prs)
    (hq : ∀ pq ∈ prs, HeadAt P ops ((Fr.of (bs.getD pq.1 ([], 0)).1 (bs.getD pq.1 ([], 0)).2 N).see ds vs (hpos hd (A.getD (hd.getD pq.2 0) []))) (hd.getD pq.2 0) (vs.getD pq.2 .undef))
    (hc : ∀ p ∈ List.range ch.length, ChainAt P K ops ds (Fr.of (bs.getD p ([], 0)).1 (bs.getD p ([], 0)).2 N) (Fr.of (bs.getD (p + 1) ([], 0)).1 (bs.getD (p + 1) ([], 0)).2 N) (ch.getD p 0) ((hpos hd (A.getD (ch.getD p 0) [])).map fun q => (q, vs.getD q .undef)) hd.length)
    (hf : Q .normal ((Fr.of (bs.getD ch.length ([], 0)).1 (bs.getD ch.length ([], 0)).2 N).see ds vs (List.range hd.length))) : AW P K (.region id ops true) (Fr.of l0 g0 N) Q := by
  subst hds
  subst hp
  have h0 : bs.getD 0 ([], 0) = (l0, g0) := by cases bs with | nil => simp at hb | cons x y => simpa using hb
  have := AW.draw2 (K := K) (id := id) (vs := vs) (Q := Q) hm hB (fun p => Fr.of (bs.getD p ([], 0)).1 (bs.getD p ([], 0)).2 N) (fun p d hd' => of_decide_eq_true (List.all_eq_true.1 hdn d hd')) (fun p q h1 h2 h3 o ho => ?_) (fun p h1 o ho => ?_) hf
  · rw [h0] at this; exact this
  · exact hq (p, q) (List.mem_flatMap.2 ⟨p, by simp; omega, List.mem_map.2 ⟨q, List.mem_filter.2 ⟨by simpa using h2, h3⟩, rfl⟩⟩) o ho
  · obtain ⟨a, b⟩ := hc p (by simpa using h1) o ho
    refine ⟨a, fun xs hx hq => b xs hx fun q hq' => ?_⟩
    obtain ⟨q', hq1, rfl⟩ := List.mem_map.1 hq'
    exact hq q' hq1
end
end Go.Proofs.Ytgoajlgkbcongaa.Vm
end
section
set_option linter.unusedVariables false
set_option linter.unusedSimpArgs false
namespace Go.Proofs.Ytgoajlgkbcongaa.Vm
open Go Go.RowKit
def mfind (n : Int) : List (Int × AV) → Option (Nat × AV)
  | [] => none
  | (k, v) :: m => if k = n then some (0, v) else (mfind n m).map fun r => (r.1 + 1, r.2)
def mput (n : Int) (v : AV) (m : List (Int × AV)) : List (Int × AV) := match mfind n m with
  | some (i, _) => m.set i (n, v)
  | none => m ++ [(n, v)]
def mdel (n : Int) (m : List (Int × AV)) : List (Int × AV) := match mfind n m with
  | some (i, _) => m.eraseIdx i
  | none => m
def keysOf (kd : IntKind) (m : List (Int × AV)) : List AV := m.map fun p => .int kd p.1
def valsOf (m : List (Int × AV)) : List AV := m.map fun p => p.2
theorem findNow_m {kd : IntKind} {n : Int} : ∀ (l : List MapEntry) (m : List (Int × AV)) (i0 : Nat), l.length = m.length → (∀ (i : Nat) (e : MapEntry) (p : Int × AV), l[i]? = some e → m[i]? = some p → e.key = .int kd p.1) →
    (mfind n m = none → Instr.findNow (.int kd) (.int kd n) l i0 = some none) ∧ (∀ j v, mfind n m = some (j, v) → ∃ e, l[j]? = some e ∧ Instr.findNow (.int kd) (.int kd n) l i0 = some (some (i0 + j, e.val)) ∧ e.key = .int kd n ∧ m[j]? = some (n, v))
  | [], [], i0, hl, hk => ⟨fun _ => rfl, fun j v h => by simp [mfind] at h⟩
  | e :: l, (k, u) :: m, i0, hl, hk => by
    have h0 := hk 0 e (k, u) rfl rfl
    simp only at h0
    obtain ⟨ih1, ih2⟩ := findNow_m l m (i0 + 1) (by simpa using hl) (fun i e p h1 h2 => hk (i + 1) e p (by simpa using h1) (by simpa using h2))
    by_cases e1 : k = n
    · subst e1
      refine ⟨fun h => by simp [mfind] at h, fun j v h => ?_⟩
      simp only [mfind, if_true, Option.some.injEq, Prod.mk.injEq] at h
      obtain ⟨rfl, rfl⟩ := h
      exact ⟨e, rfl, by simp [Instr.findNow, h0, Instr.sameNow], h0, rfl⟩
    · have hs : Instr.sameNow (.int kd) (.int kd n) e.key = some false := by simp [h0, Instr.sameNow, Ne.symm e1]
      refine ⟨fun h => ?_, fun j v h => ?_⟩
      · simp only [mfind, if_neg e1, Option.map_eq_none_iff] at h
        simp only [Instr.findNow, hs]
        exact ih1 h
      · simp only [mfind, if_neg e1, Option.map_eq_some_iff] at h
        obtain ⟨⟨j', v'⟩, h1, h2⟩ := h
        simp only [Prod.mk.injEq] at h2
        obtain ⟨rfl, rfl⟩ := h2
        obtain ⟨e', g1, g2, g3, g4⟩ := ih2 j' v' h1
        refine ⟨e', by simpa using g1, ?_, g3, by simpa using g4⟩
        simp only [Instr.findNow, hs]
        rw [g2]
        rw [show i0 + 1 + j' = i0 + (j' + 1) by omega]
  | [], _ :: _, i0, hl, hk => by simp at hl
  | _ :: _, [], i0, hl, hk => by simp at hl
def ofZ : Value → AV
  | .agg cs => .agg (cs.toList.map ofConst)
  | v => ofConst v
theorem FZ.ofZ (w : World) (D : FP) (v : Value) : FZ w D (Vm.ofZ v) v := by
  unfold Vm.ofZ
  split
  · rename_i cs
    refine .agg _ cs (by simp) (fun k u cv h1 h2 => ?_)
    simp only [List.getElem?_map, Array.getElem?_toList, h2, Option.map_some, Option.some.injEq] at h1
    subst h1
    exact .ofConst _ _ _
  · exact .ofConst _ _ _
section
variable {P : Program} {K : Base} {fr fr' : Fr} {o : Oper}
/-- A map where it stands: its block, and what may be written there. -/
theorem StC.map {a : Act} {w : World} {C : Cx} {F : Nat → FP} (hs : StC K fr a w C F) {p : Pl} {id : Nat} {ks vs : List AV} (hg : fr.get p = some (.mp id ks vs)) :
    ∃ b clock es, C.η id = .map (some b) ∧ w.heap[b]? = some (.map es clock) ∧ ks.length = es.size ∧ vs.length = es.size ∧ (∀ (i : Nat) (k : AV) (e : MapEntry), ks[i]? = some k → es[i]? = some e → FZ C.w C.D k e.key) ∧ (∀ (i : Nat) (v : AV) (e : MapEntry), vs[i]? = some v → es[i]? = some e → FZ C.w C.D v e.val) ∧
      ∀ es' clock' ks' vs', ks'.length = es'.size → vs'.length = es'.size → (∀ (i : Nat) (k : AV) (e : MapEntry), ks'[i]? = some k → es'[i]? = some e → FZ C.w C.D k e.key) → (∀ (i : Nat) (v : AV) (e : MapEntry), vs'[i]? = some v → es'[i]? = some e → FZ C.w C.D v e.val) →
        ∀ d v cv fr', (∀ C' : Cx, VR C' v cv (fun _ => False)) → (fr.put p (.mp id ks' vs')).dst d v = some fr' → St K fr' (a.put d cv) { w with heap := w.heap.setIfInBounds b (.map es' clock') } := by
  have hw := hs.hw
  subst hw
  obtain ⟨cc, Fc, hv, hsub, hput⟩ := hs.rel.lens hg
  cases hv with
  | lit v cv h => cases h
  | mp id ks vs b clock es hid hη hb hks hvs hk hvv =>
    refine ⟨b, clock, es, hη, hb, hks, hvs, hk, hvv, fun es' clock' ks' vs' l1 l2 f1 f2 d v cv fr' hvr hd => ?_⟩
    have hbD : C.D b := hs.rel.sub p.1 b (hsub b rfl)
    have hbl : b < C.w.heap.size := (Array.getElem?_eq_some_iff.1 hb).1
    have hother : ∀ x, x ≠ b → (C.w.heap.setIfInBounds b (.map es' clock'))[x]? = C.w.heap[x]? := fun x hx => by simp [Ne.symm hx]
    let w' : World := { C.w with heap := C.w.heap.setIfInBounds b (.map es' clock') }
    have hfz : ∀ x, x < C.w.heap.size → ¬ C.D x → w'.heap[x]? = C.w.heap[x]? ∧ ¬ C.D x := fun x _ hx => ⟨hother x (fun e => hx (e ▸ hbD)), hx⟩
    have hnew : VR { C with w := w' } (.mp id ks' vs') (.map (some b)) (fun x => x = b) := .mp id ks' vs' b clock' es' hid hη (by simp [w', hbl]) l1 l2 (fun i k e h1 h2 => (f1 i k e h1 h2).mono hfz) (fun i v e h1 h2 => (f2 i v e h1 h2).mono hfz)
    have hrel := hput { C with w := w' } (.mp id ks' vs') (fun x => x = b) hnew ⟨Nat.le_refl _, fun _ _ => rfl, fun x hx => hother x hx.2, hfz⟩ (fun x hx t ht => ht.2 hx) (fun x hx => by rw [hx]; exact hbD) (fun x h _ => h)
    have hF : ∀ t x, (if t = p.1 then (F t x ∧ ¬ x = b) ∨ x = b else F t x) → F t x ∨ (t = p.1 ∧ x = b) := fun t x hx => by
      by_cases e : t = p.1
      · rw [if_pos e] at hx; exact hx.imp (fun h => h.1) (fun h => ⟨e, h⟩)
      · rw [if_neg e] at hx; exact .inl hx
    have hFF : ∀ t x, (if t = p.1 then (F t x ∧ ¬ x = b) ∨ x = b else F t x) → F t x := fun t x hx => (hF t x hx).elim (fun h => h) fun ⟨e1, e2⟩ => by rw [e1, e2]; exact hsub b rfl
    refine StC.put (fr := fr.put p (.mp id ks' vs')) (C' := { C with w := w' }) hs.eta rfl hs.hg hrel (hvr _) (fun _ _ _ h => h) (fun _ h => h.elim) (fun x hx => by show x < (C.w.heap.setIfInBounds b _).size; rw [Array.size_setIfInBounds]; exact hs.lt x hx) (fun t x hx => hs.new t x (hFF t x hx)) (fun _ h => h.elim) (fun x hx => ⟨(hs.avoid x hx).1, fun t ht => (hs.avoid x hx).2 t (hFF t x ht), fun h => h⟩)
      ⟨hs.fram.os, hs.fram.tape, hs.fram.output, by show _ ≤ (C.w.heap.setIfInBounds b _).size; rw [Array.size_setIfInBounds]; exact hs.fram.size, fun x hx hD => (hother x fun e => ?_).trans (hs.fram.block x hx hD)⟩ hs.defers hs.size hd
    have := hs.new p.1 b (hsub b rfl)
    rw [← e] at this
    exact this.elim hD (fun h => by omega)
theorem VR.borMap {C : Cx} {p : Pl} {id b : Nat} {cv : Value} (h : VR C (.bor p id) cv (fun _ => False)) (hη : C.η id = .map (some b)) : cv = .map (some b) := h.borHdr.1.trans hη
def mapTy (P : Program) (t : TypeId) : Option (TypeId × TypeId) := match P.underlying t with
  | some (.map k e) => some (k, e)
  | _ => none
theorem mapTy_spec {t k e : TypeId} (h : mapTy P t = some (k, e)) : P.underlying t = some (.map k e) := by
  unfold mapTy at h
  split at h
  · rename_i a b hu; cases h; exact hu
  · cases h
def zerV (P : Program) (t : TypeId) : Option Value := (P.info? t).bind (·.zero)
theorem keys_at {kd : IntKind} {m : List (Int × AV)} {w : World} {D : FP} {es : Array MapEntry} (h : ∀ (i : Nat) (k : AV) (e : MapEntry), (keysOf kd m)[i]? = some k → es[i]? = some e → FZ w D k e.key) (i : Nat) (e : MapEntry) (p : Int × AV) (h1 : es.toList[i]? = some e) (h2 : m[i]? = some p) : e.key = .int kd p.1 := by
  have := h i (.int kd p.1) e (by simp [keysOf, h2]) (by simpa using h1)
  generalize e.key = q at this
  cases this; rfl
def lookV (m : List (Int × AV)) (n : Int) (z : Value) (ok : Bool) : AV := match mfind n m with
  | some (_, v) => if ok then .tup [v, .bool true] else v
  | none => if ok then .tup [ofZ z, .bool false] else ofZ z
theorem Quiet.lookup {t kt et : TypeId} {x ix : Operand} {ok : Bool} {p : Pl} {id : Nat} {m : List (Int × AV)} {n : Int} {kd : IntKind} {z : Value} (ho : o.op = .lookup t x ix ok) (ht : mapTy P t = some (kt, et)) (hk : intk P kt = some kd) (hz : ∀ w, (zeroValue et).run P w = .ok z w)
    (hx : fr.ev x = .bor p id) (hg : fr.get p = some (.mp id (keysOf kd m) (valsOf m))) (hi : fr.ev ix = .int kd n) : Quiet P o fr (lookV m n z ok) := by
  refine .ofRun fun K a w C F hs => ?_
  have hw := hs.hw
  subst hw
  obtain ⟨b, clock, es, hη, hb, l1, l2, f1, f2, _⟩ := hs.map hg
  have hcx := hs.ev x
  rw [hx] at hcx
  have hci := hs.ev ix
  rw [hi] at hci
  have hu : P.underlying kt = some (.int kd) := by
    unfold intk at hk
    split at hk
    · cases hk; assumption
    · cases hk
  have hlen : es.toList.length = m.length := by rw [Array.length_toList, ← l1]; simp [keysOf]
  obtain ⟨g1, g2⟩ := findNow_m (kd := kd) (n := n) es.toList m 0 hlen (keys_at f1)
  have hck : (Instr.checkKey es.isEmpty 10000 kt (.int kd n)).run P C.w = .ok () C.w := MapKept.run_checkKey (k := .int kd n) hu rfl _ 9999
  unfold lookV
  cases hm : mfind n m with
  | none =>
    have hfk := MapKept.run_findKey (P := P) (w := C.w) (k := .int kd n) hu (g1 hm)
    refine ⟨if ok then .tuple #[z, .bool false] else z, ?_, ?_⟩
    · simp [execOp, ho, hcx.borMap hη, hci.isInt, Instr.lookup, run_underlying (mapTy_spec ht), MapKept.run_getObj_map hb, hck, hfk, hz, Result.andThen]
    · cases ok
      · exact .lit _ _ (.ofZ _ _ _)
      · refine .lit _ _ (.tup _ _ rfl fun k v cv h1 h2 => ?_)
        match k with
        | 0 => simp at h1 h2; subst h1; subst h2; exact .ofZ _ _ _
        | 1 => simp at h1 h2; subst h1; subst h2; exact .bool _
        | k + 2 => simp at h1
  | some r =>
    obtain ⟨j, v⟩ := r
    obtain ⟨e, q1, q2, q3, q4⟩ := g2 j v hm
    have hfk := MapKept.run_findKey (P := P) (w := C.w) (k := .int kd n) hu q2
    have hfv : FZ C.w C.D v e.val := f2 j v e (by simp [valsOf, q4]) (by simpa using q1)
    refine ⟨if ok then .tuple #[e.val, .bool true] else e.val, ?_, ?_⟩
    · simp [execOp, ho, hcx.borMap hη, hci.isInt, Instr.lookup, run_underlying (mapTy_spec ht), MapKept.run_getObj_map hb, hck, hfk, Result.andThen]
    · cases ok
      · exact .lit _ _ hfv
      · refine .lit _ _ (.tup _ _ rfl fun k v cv h1 h2 => ?_)
        match k with
        | 0 => simp at h1 h2; subst h1; subst h2; exact hfv
        | 1 => simp at h1 h2; subst h1; subst h2; exact .bool _
        | k + 2 => simp at h1
theorem OpS.mapUpdate {t kt et : TypeId} {x ix y : Operand} {p : Pl} {id : Nat} {m : List (Int × AV)} {n : Int} {kd : IntKind} (ho : o.op = .mapUpdate t x ix y) (ht : mapTy P t = some (kt, et)) (hk : intk P kt = some kd)
    (hx : fr.ev x = .bor p id) (hg : fr.get p = some (.mp id (keysOf kd m) (valsOf m))) (hi : fr.ev ix = .int kd n) (hd : (fr.put p (.mp id (keysOf kd (mput n (fr.ev y).frz m)) (valsOf (mput n (fr.ev y).frz m)))).dst o.dst (.tup []) = some fr') : OpS P K o fr fr' := by
  rintro a w ⟨C, F, hs⟩ next Q hnx
  have hw := hs.hw
  subst hw
  obtain ⟨b, clock, es, hη, hb, l1, l2, f1, f2, hput⟩ := hs.map hg
  have hcx := hs.ev x
  rw [hx] at hcx
  have hci := hs.ev ix
  rw [hi] at hci
  have hy := (hs.ev y).frz (D' := C.D) (fun _ h => h) (fun _ h => h.elim)
  have hu : P.underlying kt = some (.int kd) := by
    unfold intk at hk
    split at hk
    · cases hk; assumption
    · cases hk
  have hlen : es.toList.length = m.length := by rw [Array.length_toList, ← l1]; simp [keysOf]
  have hsz : es.size = m.length := by simpa using hlen
  obtain ⟨g1, g2⟩ := findNow_m (kd := kd) (n := n) es.toList m 0 hlen (keys_at f1)
  have hck : (Instr.checkKey false 10000 kt (.int kd n)).run P C.w = .ok () C.w := MapKept.run_checkKey (k := .int kd n) hu rfl _ 9999
  unfold mput at hd
  cases hm : mfind n m with
  | none =>
    have hfk := MapKept.run_findKey (P := P) (w := C.w) (k := .int kd n) hu (g1 hm)
    simp only [hm] at hd
    refine wp_skipv (w' := { C.w with heap := C.w.heap.setIfInBounds b (.map (es.push { key := .int kd n, val := a.eval y, born := clock }) (clock + 1)) }) ?_ (hnx _ _ ?_)
    · simp [execOp, ho, hcx.borMap hη, hci.isInt, Instr.mapUpdate, run_underlying (mapTy_spec ht), MapKept.run_getObj_map hb, hck, hfk, MapKept.run_setObj_map _ hb, Result.andThen]
    · refine hput _ _ _ _ (by simp [keysOf, hsz]) (by simp [valsOf, hsz]) (fun i k e h1 h2 => ?_) (fun i v e h1 h2 => ?_) o.dst (.tup []) _ fr' (fun C' => .lit _ _ (.skip _ _)) hd
      · rw [Array.getElem?_push] at h2
        rw [keysOf, List.map_append] at h1
        by_cases hi2 : i = es.size
        · rw [if_pos hi2] at h2
          cases h2
          rw [List.getElem?_append_right (by simp; omega)] at h1
          simp [hi2, hsz] at h1
          subst h1
          exact .int _ _
        · rw [if_neg hi2] at h2
          have hlt : i < es.size := (Array.getElem?_eq_some_iff.1 h2).1
          rw [List.getElem?_append_left (by simp; omega)] at h1
          exact f1 i k e h1 h2
      · rw [Array.getElem?_push] at h2
        rw [valsOf, List.map_append] at h1
        by_cases hi2 : i = es.size
        · rw [if_pos hi2] at h2
          cases h2
          rw [List.getElem?_append_right (by simp; omega)] at h1
          simp [hi2, hsz] at h1
          subst h1
          exact hy
        · rw [if_neg hi2] at h2
          have hlt : i < es.size := (Array.getElem?_eq_some_iff.1 h2).1
          rw [List.getElem?_append_left (by simp; omega)] at h1
          exact f2 i v e h1 h2
  | some r =>
    obtain ⟨j, v⟩ := r
    obtain ⟨e, q1, q2, q3, q4⟩ := g2 j v hm
    have hfk := MapKept.run_findKey (P := P) (w := C.w) (k := .int kd n) hu q2
    have hej : es[j]? = some e := by simpa using q1
    have hks : (Instr.keyThatStays (.int kd n) (.int kd n)).run P C.w = .ok (.int kd n) C.w := MapKept.run_keyThatStays (d := .int kd) (k := .int kd n) rfl
    simp only [hm] at hd
    refine wp_skipv (w' := { C.w with heap := C.w.heap.setIfInBounds b (.map (es.modify j fun e => { e with key := .int kd n, val := a.eval y }) clock) }) ?_ (hnx _ _ ?_)
    · simp [execOp, ho, hcx.borMap hη, hci.isInt, Instr.mapUpdate, run_underlying (mapTy_spec ht), MapKept.run_getObj_map hb, hck, hfk, hej, q3, hks, MapKept.run_setObj_map _ hb, Result.andThen]
    · refine hput _ _ _ _ (by simp [keysOf, hsz]) (by simp [valsOf, hsz]) (fun i k e h1 h2 => ?_) (fun i v e h1 h2 => ?_) o.dst (.tup []) _ fr' (fun C' => .lit _ _ (.skip _ _)) hd
      · rw [Array.getElem?_modify] at h2
        rw [keysOf, List.getElem?_map, List.getElem?_set] at h1
        by_cases e1 : j = i
        · subst e1
          have hjl : j < m.length := (List.getElem?_eq_some_iff.1 q4).1
          simp [hjl] at h1
          simp [hej] at h2
          subst h1; subst h2
          exact .int _ _
        · rw [if_neg e1] at h1
          rw [if_neg e1] at h2
          exact f1 i k e (by rw [keysOf, List.getElem?_map]; exact h1) h2
      · rw [Array.getElem?_modify] at h2
        rw [valsOf, List.getElem?_map, List.getElem?_set] at h1
        by_cases e1 : j = i
        · subst e1
          have hjl : j < m.length := (List.getElem?_eq_some_iff.1 q4).1
          simp [hjl] at h1
          simp [hej] at h2
          subst h1; subst h2
          exact hy
        · rw [if_neg e1] at h1
          rw [if_neg e1] at h2
          exact f2 i v e (by rw [valsOf, List.getElem?_map]; exact h1) h2
theorem OpS.delete {t kt et kt' : TypeId} {x ix : Operand} {p : Pl} {id : Nat} {m : List (Int × AV)} {n : Int} {kd : IntKind} (ho : o.op = .call { callee := .builtin .delete, args := #[x, ix], argTypes := #[t, kt'] }) (ht : mapTy P t = some (kt, et)) (hk : intk P kt = some kd)
    (hx : fr.ev x = .bor p id) (hg : fr.get p = some (.mp id (keysOf kd m) (valsOf m))) (hi : fr.ev ix = .int kd n) (hd : (fr.put p (.mp id (keysOf kd (mdel n m)) (valsOf (mdel n m)))).dst o.dst (.tup []) = some fr') : OpS P K o fr fr' := by
  rintro a w ⟨C, F, hs⟩ next Q hnx
  have hw := hs.hw
  subst hw
  obtain ⟨b, clock, es, hη, hb, l1, l2, f1, f2, hput⟩ := hs.map hg
  have hcx := hs.ev x
  rw [hx] at hcx
  have hci := hs.ev ix
  rw [hi] at hci
  have hu : P.underlying kt = some (.int kd) := by
    unfold intk at hk
    split at hk
    · cases hk; assumption
    · cases hk
  have hlen : es.toList.length = m.length := by rw [Array.length_toList, ← l1]; simp [keysOf]
  have hsz : es.size = m.length := by simpa using hlen
  obtain ⟨g1, g2⟩ := findNow_m (kd := kd) (n := n) es.toList m 0 hlen (keys_at f1)
  have hck : (Instr.checkKey es.isEmpty 10000 kt (.int kd n)).run P C.w = .ok () C.w := MapKept.run_checkKey (k := .int kd n) hu rfl _ 9999
  unfold mdel at hd
  cases hm : mfind n m with
  | none =>
    have hfk := MapKept.run_findKey (P := P) (w := C.w) (k := .int kd n) hu (g1 hm)
    simp only [hm] at hd
    refine wp_value (cv := .tuple #[]) (w' := { C.w with heap := C.w.heap.setIfInBounds b (.map es clock) }) ?_ (hnx _ _ ?_)
    · simp [execOp, ho, resolve, invoke, builtin, Builtin.delete_, hcx.borMap hη, hci.isInt, run_underlying (mapTy_spec ht), MapKept.run_getObj_map hb, hck, hfk, MapKept.run_setObj_map _ hb, Result.andThen]
    · exact hput es clock _ _ l1 l2 f1 f2 o.dst (.tup []) _ fr' (fun C' => .lit _ _ (.skip _ _)) hd
  | some r =>
    obtain ⟨j, v⟩ := r
    obtain ⟨e, q1, q2, q3, q4⟩ := g2 j v hm
    have hfk := MapKept.run_findKey (P := P) (w := C.w) (k := .int kd n) hu q2
    have hjl : j < m.length := (List.getElem?_eq_some_iff.1 q4).1
    have hjs : j < es.size := by omega
    simp only [hm] at hd
    refine wp_value (cv := .tuple #[]) (w' := { C.w with heap := C.w.heap.setIfInBounds b (.map (es.eraseIdxIfInBounds j) clock) }) ?_ (hnx _ _ ?_)
    · simp [execOp, ho, resolve, invoke, builtin, Builtin.delete_, hcx.borMap hη, hci.isInt, run_underlying (mapTy_spec ht), MapKept.run_getObj_map hb, hck, hfk, MapKept.run_setObj_map _ hb, Result.andThen]
    · have hez : (es.eraseIdxIfInBounds j).size = es.size - 1 := by simp [Array.eraseIdxIfInBounds, hjs]
      have hat : ∀ i : Nat, (es.eraseIdxIfInBounds j)[i]? = if i < j then es[i]? else es[i + 1]? := fun i => by
        have : (es.eraseIdxIfInBounds j).toList = es.toList.eraseIdx j := by simp [Array.eraseIdxIfInBounds, hjs]
        rw [← Array.getElem?_toList, this, List.getElem?_eraseIdx]
        simp
      refine hput _ _ _ _ (by simp [keysOf, hez, List.length_eraseIdx, hjl, hsz]) (by simp [valsOf, hez, List.length_eraseIdx, hjl, hsz]) (fun i k e h1 h2 => ?_) (fun i v e h1 h2 => ?_) o.dst (.tup []) _ fr' (fun C' => .lit _ _ (.skip _ _)) hd
      · rw [hat] at h2
        rw [keysOf, List.getElem?_map, List.getElem?_eraseIdx] at h1
        by_cases e1 : i < j
        · rw [if_pos e1] at h1 h2
          exact f1 i k e (by rw [keysOf, List.getElem?_map]; exact h1) h2
        · rw [if_neg e1] at h1 h2
          exact f1 (i + 1) k e (by rw [keysOf, List.getElem?_map]; exact h1) h2
      · rw [hat] at h2
        rw [valsOf, List.getElem?_map, List.getElem?_eraseIdx] at h1
        by_cases e1 : i < j
        · rw [if_pos e1] at h1 h2
          exact f2 i v e (by rw [valsOf, List.getElem?_map]; exact h1) h2
        · rw [if_neg e1] at h1 h2
          exact f2 (i + 1) v e (by rw [valsOf, List.getElem?_map]; exact h1) h2
/-! ### '== nil' -/
/-- What is known of '== nil'. -/
def nilB (fr : Fr) (u : AV) (b : Bool) : Prop := match u with
  | .nil => b = true
  | .fz rows => rows ≠ [] → b = false
  | .bor p id => match fr.get p with
    | some (.own id' sz rows) => id' = id ∧ (rows ≠ [] → b = false)
    | _ => False
  | _ => False
def nilAble (fr : Fr) (u : AV) : Bool := match u with
  | .nil => true
  | .fz _ => true
  | .bor p id => match fr.get p with
    | some (.own id' _ _) => id' == id
    | _ => false
  | _ => false
theorem OpE.eqNil {t e t' : TypeId} {x : Operand} (ho : o.op = .binOp .eql t x (.const (.slice none 0 0)) t') (ht : P.underlying t = some (.slice e)) (hx : nilAble fr (fr.ev x) = true) (hd : ∀ d, o.dst = some d → d < fr.n) :
    OpE P K o fr (fun fr' => ∃ b, nilB fr (fr.ev x) b ∧ fr.dst o.dst (.bool b) = some fr') := by
  rintro a w ⟨C, F, hs⟩ next Q hn
  have hw := hs.hw
  subst hw
  obtain ⟨A, n, c, hcv, hb⟩ : ∃ A n c, a.eval x = .slice A n c ∧ nilB fr (fr.ev x) A.isNone := by
    have h := hs.ev x
    generalize fr.ev x = u at h hx
    generalize a.eval x = cv at h
    cases u with
    | nil => cases h with | lit v cv h => cases h; exact ⟨_, _, _, rfl, rfl⟩
    | fz rows =>
      cases h with
      | lit v cv h =>
        cases h with
        | fz rows A n cap sz cvs hn hsz hcap hmax hcell hv hone =>
          refine ⟨_, _, _, rfl, fun hne => ?_⟩
          obtain ⟨b, o, rfl, _⟩ := hcell (by rw [← hn]; exact List.length_pos_iff.2 hne)
          rfl
    | bor p id =>
      simp only [nilAble] at hx
      cases hg : fr.get p with
      | none => simp [hg] at hx
      | some q =>
        cases q with
        | own id' sz rows =>
          simp only [hg, beq_iff_eq] at hx
          subst hx
          obtain ⟨cc, Fc, F', hv, hmv⟩ := hs.rel.take hg
          have e1 := h.borHdr.1
          have e2 := hv.hdr
          rw [e1, ← e2]
          cases hv with
          | lit v cv h => cases h
          | ownNil => exact ⟨_, _, _, rfl, by simp [nilB, hg]⟩
          | own => exact ⟨_, _, _, rfl, by simp [nilB, hg]⟩
        | _ => simp [hg] at hx
    | _ => simp [nilAble] at hx
  obtain ⟨fr', hfr'⟩ : ∃ fr', fr.dst o.dst (.bool A.isNone) = some fr' := by
    cases hod : o.dst with
    | none => exact ⟨_, rfl⟩
    | some d => exact ⟨_, if_pos (hd d hod)⟩
  refine wp_value (cv := .bool A.isNone) (w' := C.w) ?_ (hn fr' _ _ ⟨A.isNone, hb, hfr'⟩ ?_)
  · have hg : (eqGuard .eql t x (.const (.slice none 0 0)) (.slice A n c) (.slice none 0 0)).run P C.w = .ok () C.w := by simp [eqGuard]
    have hnil : a.eval (.const (.slice none 0 0)) = .slice none 0 0 := rfl
    simp only [execOp, ho, hcv, hnil]
    simp only [Sem.run_bind, hg, Result.andThen_ok, Go.Lib.run_eql_slice_nil C.w t e A n c 0 0 ht, Sem.run_pure]
  · exact StC.put hs.eta hs.hw hs.hg hs.rel (.lit _ _ (.bool _)) (fun _ _ _ h => h) (fun _ h => h.elim) hs.lt hs.new (fun _ h => h.elim) (fun x hx => ⟨(hs.avoid x hx).1, (hs.avoid x hx).2, fun h => h⟩) hs.fram hs.defers hs.size hfr'
theorem LW.eqNil {all : Array Oper} {l : List Oper} {Q : Exit → Fr → Prop} {t e t' : TypeId} {x : Operand} (hg : o.guard = none) (ho : o.op = .binOp .eql t x (.const (.slice none 0 0)) t') (ht : P.underlying t = some (.slice e)) (hx : nilAble fr (fr.ev x) = true) (hd : ∀ d, o.dst = some d → d < fr.n)
    (h : ∀ b, nilB fr (fr.ev x) b → ∃ fr', fr.dst o.dst (.bool b) = some fr' ∧ LW P K all l fr' Q) : LW P K all (o :: l) fr Q :=
  LW.consE hg (OpE.eqNil ho ht hx hd) fun fr' ⟨b, h1, h2⟩ => by
    obtain ⟨f, h3, h4⟩ := h b h1
    rw [h2] at h3; cases h3; exact h4
theorem LW.run2 {all : Array Oper} {l2 : List Oper} {Q : Exit → Fr → Prop} : ∀ (l : List Oper) (fr : Fr) (ans : List AV) {fr' : Fr} {obs : List Ob}, xlist P all l fr ans = some (fr', obs) → obsOK P obs → LW P K all l2 fr' Q → LW P K all (l ++ l2) fr Q
  | [], fr, [], fr', obs, h, ho, hq => by
    simp only [xlist, Option.some.injEq, Prod.mk.injEq] at h
    obtain ⟨rfl, rfl⟩ := h
    exact hq
  | [], fr, _ :: _, fr', obs, h, ho, hq => by cases h
  | o :: l, fr, ans, fr', obs, h, hob, hq => by
    simp only [xlist] at h
    obtain ⟨b, hg, h⟩ := Option.bind_eq_some_iff.1 h
    cases b with
    | false =>
      simp only at h
      obtain ⟨f, h1, h2⟩ := Option.bind_eq_some_iff.1 h
      rcases gst_spec hg with ⟨_, h0⟩ | ⟨j, want, g, c, g1, g2, g3, g4⟩ | ⟨j, want, g, g1, g2, g3, g4⟩
      · cases h0
      rotate_left
      · exact LW.unwant0 g1 g2 g3 h1 (LW.run2 l f ans h2 hob hq)
      · have : want = !c := by revert g4; cases c <;> cases want <;> decide
        subst this
        exact LW.unwant g1 g2 g3 h1 (LW.run2 l f ans h2 hob hq)
    | true =>
      simp only at h
      have step : ∀ {f : Fr}, OpS P K o fr f → LW P K all (l ++ l2) f Q → LW P K all (o :: l ++ l2) fr Q := by
        intro f h1 h2
        rcases gst_spec hg with ⟨h0, _⟩ | ⟨j, want, g, c, g1, g2, g3, g4⟩ | ⟨j, want, g, g1, g2, g3, g4⟩
        · exact .cons h0 h1 h2
        rotate_left
        · cases g4
        · have : want = c := by revert g4; cases c <;> cases want <;> decide
          subst this
          exact .want g1 g2 g3 h1 h2
      split at h
      · rename_i c hc
        cases ans with
        | nil => cases h
        | cons v ans =>
          simp only at h
          obtain ⟨us, h1, h⟩ := Option.bind_eq_some_iff.1 h
          obtain ⟨f, h2, h⟩ := Option.bind_eq_some_iff.1 h
          obtain ⟨⟨fe, obs'⟩, h3, h4⟩ := Option.map_eq_some_iff.1 h
          simp only [Prod.mk.injEq] at h4
          obtain ⟨rfl, rfl⟩ := h4
          exact step ((call_quiet hc h1 hob.1).step (Fr.Le.refl _) h2) (LW.run2 l f ans h3 hob.2 hq)
      · obtain ⟨f, h1, h2⟩ := Option.bind_eq_some_iff.1 h
        exact step (xe_sound h1) (LW.run2 l f ans h2 hob hq)
/-- A region, its first operations run. -/
theorem LW.runs {all : Array Oper} {l1 l2 : List Oper} {Q : Exit → Fr → Prop} {obs : List Ob} (ans : List AV) (h : xlR P all l1 (fr, ans, []) = some (fr', obs)) (ho : obsOK P obs) (hq : LW P K all l2 fr' Q) : LW P K all (l1 ++ l2) fr Q := by
  rw [xlR_eq] at h
  obtain ⟨⟨f, ob⟩, h1, h2⟩ := Option.map_eq_some_iff.1 h
  simp only [List.nil_append, Prod.mk.injEq] at h2
  obtain ⟨rfl, rfl⟩ := h2
  exact LW.run2 _ _ ans h1 ho hq
theorem LW.split {all : Array Oper} {l : List Oper} {Q : Exit → Fr → Prop} {obs : List Ob} (n : Nat) (ans : List AV) (h : xlR P all (l.take n) (fr, ans, []) = some (fr', obs)) (ho : obsOK P obs) (hq : LW P K all (l.drop n) fr' Q) : LW P K all l fr Q := by
  have := LW.runs (l1 := l.take n) (l2 := l.drop n) ans h ho hq
  rwa [List.take_append_drop] at this
theorem LW.op {all : Array Oper} {l : List Oper} {Q : Exit → Fr → Prop} (hg : o.guard = none) (ho : OpS P K o fr fr') (h : LW P K all l fr' Q) : LW P K all (o :: l) fr Q := .cons hg ho h
/-- An empty place taken for a slice of one's own without elements. -/
theorem St.nilOwn {a : Act} {w : World} (p : Pl) (z : Nat) (hg : fr.get p = some .nil) (hs : St K fr a w) : St K ((fr.put p (.own fr.g z [])).fresh 1) a w := by
  obtain ⟨C, F, hs⟩ := hs
  obtain ⟨cc, Fc, hv, hsub, hput⟩ := hs.rel.lens hg
  have hcc : cc = .slice none 0 0 := by cases hv with | lit v cv h => cases h; rfl
  subst hcc
  let C' : Cx := ⟨C.w, C.D, fun id => if id = C.g then .slice none 0 0 else C.η id, C.g + 1⟩
  have hcm : ∀ F, Compat C C' F := fun F => ⟨Nat.le_succ _, fun id hid => by show (if id = C.g then _ else _) = _; rw [if_neg (by omega)], fun _ _ => rfl, fun _ _ h => ⟨rfl, h⟩⟩
  have hrel := hput C' (.own fr.g z []) (fun _ => False) (.ownNil _ _ (by rw [← hs.hg]; exact Nat.lt_succ_self _) (by rw [← hs.hg]; show (if C.g = C.g then _ else _) = _; rw [if_pos rfl])) (hcm _) (fun _ h => h.elim) (fun _ h => h.elim) (fun x h _ => h)
  have hFF : ∀ t x, (if t = p.1 then (F t x ∧ ¬ Fc x) ∨ False else F t x) → F t x := fun t x hx => by
    by_cases e : t = p.1
    · rw [if_pos e] at hx; exact hx.elim (fun h => h.1) False.elim
    · rwa [if_neg e] at hx
  exact ⟨C', _, hs.hw, by show C.g + 1 = fr.g + 1; rw [hs.hg], ⟨hrel.vr, hrel.dis, hrel.sub⟩, hs.lt, fun t x hx => hs.new t x (hFF t x hx), fun x hx => ⟨(hs.avoid x hx).1, fun t ht => (hs.avoid x hx).2 t (hFF t x ht)⟩, hs.fram, hs.defers, hs.size, ⟨Nat.le_trans hs.eta.1 (Nat.le_succ _), fun id hid => by
    show (if id = C.g then _ else _) = _
    rw [if_neg (by have := hs.eta.1; omega)]
    exact hs.eta.2 id hid⟩⟩
theorem AW.nilOwn {c : Code} {Q : Exit → Fr → Prop} (p : Pl) (z : Nat) (hg : fr.get p = some .nil) (h : AW P K c ((fr.put p (.own fr.g z [])).fresh 1) Q) : AW P K c fr Q := fun a w hs => h a w (hs.nilOwn p z hg)
end
section
variable {P : Program} {fr : Fr}
theorem outV_cell (a : Nat) (t : TypeId) : outV P fr (.cell a t) = (match fr.s a with
    | .box _ cells => match shp P t with
      | some none => match cells with
        | [v] => some v
        | _ => none
      | some (some n) => if cells.length = n then some (.agg cells) else none
      | none => none
    | _ => none) := rfl
attribute [go_sem] outV_cell
theorem get_def (p : Pl) : fr.get p = getP p.2 (fr.s p.1) := rfl
theorem s_put (p : Pl) (u : AV) (t : Nat) : (fr.put p u).s t = if t = p.1 then putP p.2 u (fr.s p.1) else fr.s t := rfl
theorem g_put (p : Pl) (u : AV) : (fr.put p u).g = fr.g := rfl
theorem n_put (p : Pl) (u : AV) : (fr.put p u).n = fr.n := rfl
end
end Go.Proofs.Ytgoajlgkbcongaa.Vm
end
