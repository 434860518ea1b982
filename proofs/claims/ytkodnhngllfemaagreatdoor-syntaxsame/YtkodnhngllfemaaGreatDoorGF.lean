import Derived.Test.YtkodnhngllfemaaGreatDoorE0
import Derived.Test.YtkodnhngllfemaaGreatDoorProg
set_option linter.unusedVariables false
set_option linter.unusedSimpArgs false
namespace Go.Proofs.YtkodnhngllfemaaGreatDoor
open Go
theorem glob_pow {h : Hp} {w : World} (hs : Sub h w) : Go.Lib.TabIs Tryz.prog w "internal/strconv.uint64pow10" .u64 Go.Lib.pow10Tab := by
  obtain ⟨h1, T, fr, h2⟩ := hs.glob.g6
  have h3 := (hs.lows 6 h1).trans h2
  have hg : Tryz.prog.globalNamed "internal/strconv.uint64pow10" = some 6 := by kernel_rfl
  unfold Go.Lib.TabIs World.var?
  rw [hg]
  show (match w.heap[6]? with | some (.cells cs _ _) => some cs | _ => none) = _
  rw [h3]
theorem t_agg_157 : tAgg Tryz.prog 157 = some false := by kernel_rfl
theorem t_agg_166 : tAgg Tryz.prog 166 = some false := by kernel_rfl
theorem Z4f : tAgg Tryz.prog 22 = some false := by kernel_rfl
theorem Z5c : tAgg Tryz.prog 23 = some false := by kernel_rfl
theorem Z0f : tAgg Tryz.prog 3 = some false := by kernel_rfl
theorem t_agg_34 : tAgg Tryz.prog 34 = some false := by kernel_rfl
theorem Z80 : tAgg Tryz.prog 38 = some true := by kernel_rfl
theorem Zea : tAgg Tryz.prog 4 = some false := by kernel_rfl
theorem Z2k : tAgg Tryz.prog 45 = some false := by kernel_rfl
theorem Z2a : tAgg Tryz.prog 47 = some true := by kernel_rfl
theorem t_agg_53 : tAgg Tryz.prog 53 = some false := by kernel_rfl
theorem Z4b : tAgg Tryz.prog 54 = some false := by kernel_rfl
theorem Z4g : tAgg Tryz.prog 56 = some true := by kernel_rfl
theorem t_agg_65 : tAgg Tryz.prog 65 = some false := by kernel_rfl
theorem Zc4 : tAgg Tryz.prog 75 = some false := by kernel_rfl
theorem t_agg_77 : tAgg Tryz.prog 77 = some true := by kernel_rfl
theorem Z43 : tAgg Tryz.prog 79 = some false := by kernel_rfl
theorem Z2r : tAgg Tryz.prog 9 = some false := by kernel_rfl
theorem Zdp : Tryz.prog.underlying 60 = some (.array 2 47) := by kernel_rfl
theorem Zf9 : Tryz.prog.underlying 4 = some .bool := by kernel_rfl
theorem t_bytes_3 : tBytes Tryz.prog 3 = some 8 := by kernel_rfl
theorem t_bytes_38 : tBytes Tryz.prog 38 = some 32 := by kernel_rfl
theorem t_bytes_47 : tBytes Tryz.prog 47 = some 80 := by kernel_rfl
theorem t_bytes_56 : tBytes Tryz.prog 56 = some 184 := by kernel_rfl
theorem t_bytes_77 : tBytes Tryz.prog 77 = some 72 := by kernel_rfl
theorem t_bytes_9 : tBytes Tryz.prog 9 = some 16 := by kernel_rfl
theorem t_conc_138 : tConc Tryz.prog 138 = true := by kernel_rfl
theorem t_ent_100 : entB Tryz.prog 100 = true := by kernel_rfl
theorem t_ent_101 : entB Tryz.prog 101 = true := by kernel_rfl
theorem t_ent_102 : entB Tryz.prog 102 = true := by kernel_rfl
theorem t_ent_103 : entB Tryz.prog 103 = true := by kernel_rfl
theorem t_ent_104 : entB Tryz.prog 104 = true := by kernel_rfl
theorem t_ent_105 : entB Tryz.prog 105 = true := by kernel_rfl
theorem t_ent_106 : entB Tryz.prog 106 = true := by kernel_rfl
theorem Z7s : entB Tryz.prog 107 = true := by kernel_rfl
theorem Zbe : entB Tryz.prog 108 = true := by kernel_rfl
theorem Z4r : entB Tryz.prog 109 = true := by kernel_rfl
theorem t_ent_110 : entB Tryz.prog 110 = true := by kernel_rfl
theorem Z98 : entB Tryz.prog 111 = true := by kernel_rfl
theorem t_ent_12 : entB Tryz.prog 12 = true := by kernel_rfl
theorem t_ent_123 : entB Tryz.prog 123 = true := by kernel_rfl
theorem t_ent_124 : entB Tryz.prog 124 = true := by kernel_rfl
theorem t_ent_125 : entB Tryz.prog 125 = true := by kernel_rfl
theorem t_ent_126 : entB Tryz.prog 126 = true := by kernel_rfl
theorem t_ent_127 : entB Tryz.prog 127 = true := by kernel_rfl
theorem t_ent_128 : entB Tryz.prog 128 = true := by kernel_rfl
theorem t_ent_129 : entB Tryz.prog 129 = true := by kernel_rfl
theorem t_ent_130 : entB Tryz.prog 130 = true := by kernel_rfl
theorem t_ent_131 : entB Tryz.prog 131 = true := by kernel_rfl
theorem t_ent_132 : entB Tryz.prog 132 = true := by kernel_rfl
theorem t_ent_133 : entB Tryz.prog 133 = true := by kernel_rfl
theorem t_ent_134 : entB Tryz.prog 134 = true := by kernel_rfl
theorem t_ent_138 : entB Tryz.prog 138 = true := by kernel_rfl
theorem t_ent_139 : entB Tryz.prog 139 = true := by kernel_rfl
theorem t_ent_144 : entB Tryz.prog 144 = true := by kernel_rfl
theorem t_ent_145 : entB Tryz.prog 145 = true := by kernel_rfl
theorem t_ent_146 : entB Tryz.prog 146 = true := by kernel_rfl
theorem t_ent_147 : entB Tryz.prog 147 = true := by kernel_rfl
theorem t_ent_148 : entB Tryz.prog 148 = true := by kernel_rfl
theorem t_ent_149 : entB Tryz.prog 149 = true := by kernel_rfl
theorem t_ent_15 : entB Tryz.prog 15 = true := by kernel_rfl
theorem t_ent_150 : entB Tryz.prog 150 = true := by kernel_rfl
theorem t_ent_151 : entB Tryz.prog 151 = true := by kernel_rfl
theorem t_ent_152 : entB Tryz.prog 152 = true := by kernel_rfl
theorem t_ent_153 : entB Tryz.prog 153 = true := by kernel_rfl
theorem t_ent_156 : entB Tryz.prog 156 = true := by kernel_rfl
theorem t_ent_157 : entB Tryz.prog 157 = true := by kernel_rfl
theorem t_ent_158 : entB Tryz.prog 158 = true := by kernel_rfl
theorem Zez : entB Tryz.prog 159 = true := by kernel_rfl
theorem t_ent_16 : entB Tryz.prog 16 = true := by kernel_rfl
theorem t_ent_169 : entB Tryz.prog 169 = true := by kernel_rfl
theorem t_ent_170 : entB Tryz.prog 170 = true := by kernel_rfl
theorem t_ent_171 : entB Tryz.prog 171 = true := by kernel_rfl
theorem t_ent_172 : entB Tryz.prog 172 = true := by kernel_rfl
theorem t_ent_173 : entB Tryz.prog 173 = true := by kernel_rfl
theorem t_ent_174 : entB Tryz.prog 174 = true := by kernel_rfl
theorem t_ent_18 : entB Tryz.prog 18 = true := by kernel_rfl
theorem t_ent_182 : entB Tryz.prog 182 = true := by kernel_rfl
theorem t_ent_186 : entB Tryz.prog 186 = true := by kernel_rfl
theorem t_ent_189 : entB Tryz.prog 189 = true := by kernel_rfl
theorem t_ent_19 : entB Tryz.prog 19 = true := by kernel_rfl
theorem t_ent_190 : entB Tryz.prog 190 = true := by kernel_rfl
theorem t_ent_21 : entB Tryz.prog 21 = true := by kernel_rfl
theorem t_ent_25 : entB Tryz.prog 25 = true := by kernel_rfl
theorem t_ent_26 : entB Tryz.prog 26 = true := by kernel_rfl
theorem t_ent_29 : entB Tryz.prog 29 = true := by kernel_rfl
theorem t_ent_30 : entB Tryz.prog 30 = true := by kernel_rfl
theorem t_ent_32 : entB Tryz.prog 32 = true := by kernel_rfl
theorem Z8r : entB Tryz.prog 33 = true := by kernel_rfl
theorem t_ent_34 : entB Tryz.prog 34 = true := by kernel_rfl
theorem t_ent_38 : entB Tryz.prog 38 = true := by kernel_rfl
theorem t_ent_39 : entB Tryz.prog 39 = true := by kernel_rfl
theorem t_ent_40 : entB Tryz.prog 40 = true := by kernel_rfl
theorem t_ent_42 : entB Tryz.prog 42 = true := by kernel_rfl
theorem t_ent_43 : entB Tryz.prog 43 = true := by kernel_rfl
theorem Z3e : entB Tryz.prog 46 = true := by kernel_rfl
theorem t_ent_50 : entB Tryz.prog 50 = true := by kernel_rfl
theorem t_ent_51 : entB Tryz.prog 51 = true := by kernel_rfl
theorem t_ent_54 : entB Tryz.prog 54 = true := by kernel_rfl
theorem t_ent_55 : entB Tryz.prog 55 = true := by kernel_rfl
theorem t_ent_56 : entB Tryz.prog 56 = true := by kernel_rfl
theorem t_ent_57 : entB Tryz.prog 57 = true := by kernel_rfl
theorem t_ent_58 : entB Tryz.prog 58 = true := by kernel_rfl
theorem t_ent_59 : entB Tryz.prog 59 = true := by kernel_rfl
theorem t_ent_60 : entB Tryz.prog 60 = true := by kernel_rfl
theorem Z21 : entB Tryz.prog 61 = true := by kernel_rfl
theorem t_ent_66 : entB Tryz.prog 66 = true := by kernel_rfl
theorem t_ent_67 : entB Tryz.prog 67 = true := by kernel_rfl
theorem t_ent_68 : entB Tryz.prog 68 = true := by kernel_rfl
theorem t_ent_69 : entB Tryz.prog 69 = true := by kernel_rfl
theorem t_ent_70 : entB Tryz.prog 70 = true := by kernel_rfl
theorem t_ent_71 : entB Tryz.prog 71 = true := by kernel_rfl
theorem t_ent_72 : entB Tryz.prog 72 = true := by kernel_rfl
theorem t_ent_73 : entB Tryz.prog 73 = true := by kernel_rfl
theorem t_ent_74 : entB Tryz.prog 74 = true := by kernel_rfl
theorem t_ent_75 : entB Tryz.prog 75 = true := by kernel_rfl
theorem t_ent_78 : entB Tryz.prog 78 = true := by kernel_rfl
theorem t_ent_79 : entB Tryz.prog 79 = true := by kernel_rfl
theorem t_ent_80 : entB Tryz.prog 80 = true := by kernel_rfl
theorem t_ent_86 : entB Tryz.prog 86 = true := by kernel_rfl
theorem t_ent_87 : entB Tryz.prog 87 = true := by kernel_rfl
theorem t_ent_88 : entB Tryz.prog 88 = true := by kernel_rfl
theorem t_ent_89 : entB Tryz.prog 89 = true := by kernel_rfl
theorem t_ent_90 : entB Tryz.prog 90 = true := by kernel_rfl
theorem t_ent_91 : entB Tryz.prog 91 = true := by kernel_rfl
theorem t_ent_92 : entB Tryz.prog 92 = true := by kernel_rfl
theorem t_ent_93 : entB Tryz.prog 93 = true := by kernel_rfl
theorem t_ent_94 : entB Tryz.prog 94 = true := by kernel_rfl
theorem t_ent_98 : entB Tryz.prog 98 = true := by kernel_rfl
theorem t_ent_99 : entB Tryz.prog 99 = true := by kernel_rfl
theorem Zek : fOff Tryz.prog 138 0 = some 0 := by kernel_rfl
theorem t_field_138_1 : fOff Tryz.prog 138 1 = some 1 := by kernel_rfl
theorem t_field_140_0 : fOff Tryz.prog 140 0 = some 0 := by kernel_rfl
theorem Z61 : fOff Tryz.prog 140 1 = some 1 := by kernel_rfl
theorem t_field_155_0 : fOff Tryz.prog 155 0 = some 0 := by kernel_rfl
theorem t_field_155_1 : fOff Tryz.prog 155 1 = some 1 := by kernel_rfl
theorem t_field_155_2 : fOff Tryz.prog 155 2 = some 2 := by kernel_rfl
theorem t_field_155_3 : fOff Tryz.prog 155 3 = some 3 := by kernel_rfl
theorem t_field_155_4 : fOff Tryz.prog 155 4 = some 4 := by kernel_rfl
theorem Zda : fOff Tryz.prog 38 0 = some 0 := by kernel_rfl
theorem Zgi : fOff Tryz.prog 38 1 = some 1 := by kernel_rfl
theorem Ze1 : fOff Tryz.prog 38 2 = some 2 := by kernel_rfl
theorem Z64 : fOff Tryz.prog 47 0 = some 0 := by kernel_rfl
theorem Zbb : fOff Tryz.prog 47 1 = some 1 := by kernel_rfl
theorem Zba : fOff Tryz.prog 47 2 = some 2 := by kernel_rfl
theorem Zdd : fOff Tryz.prog 47 3 = some 3 := by kernel_rfl
theorem Zb9 : fOff Tryz.prog 47 4 = some 4 := by kernel_rfl
theorem Z4i : fOff Tryz.prog 47 5 = some 5 := by kernel_rfl
theorem Z45 : fOff Tryz.prog 56 0 = some 0 := by kernel_rfl
theorem Zdc : fOff Tryz.prog 56 1 = some 1 := by kernel_rfl
theorem Z6z : fOff Tryz.prog 56 2 = some 2 := by kernel_rfl
theorem Z78 : fOff Tryz.prog 56 3 = some 3 := by kernel_rfl
theorem Z3o : fOff Tryz.prog 56 4 = some 4 := by kernel_rfl
theorem Z5d : fOff Tryz.prog 56 5 = some 5 := by kernel_rfl
theorem Z65 : fOff Tryz.prog 56 6 = some 6 := by kernel_rfl
theorem Z19 : fOff Tryz.prog 56 7 = some 7 := by kernel_rfl
theorem Z5f : fOff Tryz.prog 56 8 = some 8 := by kernel_rfl
theorem Z5a : fOff Tryz.prog 56 9 = some 9 := by kernel_rfl
theorem Z40 : fOff Tryz.prog 77 0 = some 0 := by kernel_rfl
theorem Z42 : fOff Tryz.prog 77 1 = some 1 := by kernel_rfl
theorem Z8c : fOff Tryz.prog 77 2 = some 2 := by kernel_rfl
theorem Z1w : fOff Tryz.prog 81 0 = some 0 := by kernel_rfl
theorem Z0q : fOff Tryz.prog 81 1 = some 1 := by kernel_rfl
theorem Zfy : fOff Tryz.prog 87 0 = some 0 := by kernel_rfl
theorem t_field_87_1 : fOff Tryz.prog 87 1 = some 1 := by kernel_rfl
theorem Zd6 : tFld Tryz.prog 38 0 = some (3, 0) := by kernel_rfl
theorem t_fld_38_1 : tFld Tryz.prog 38 1 = some (9, 1) := by kernel_rfl
theorem t_fld_38_2 : tFld Tryz.prog 38 2 = some (3, 2) := by kernel_rfl
theorem t_imeth_133 : Tryz.prog.underlying 133 = some (.interface (Tryz.prog.methodsAt 133)) := by kernel_rfl
theorem t_imeth_20 : Tryz.prog.underlying 20 = some (.interface (Tryz.prog.methodsAt 20)) := by kernel_rfl
theorem t_int_3 : Tryz.prog.underlying 3 = some (.int .i64) := by kernel_rfl
theorem Zcz : Tryz.prog.underlying 100 = some (.map 9 103) := by kernel_rfl
theorem t_map_157 : Tryz.prog.underlying 157 = some (.map 3 155) := by kernel_rfl
theorem Z72 : Tryz.prog.underlying 166 = some (.map 9 3) := by kernel_rfl
theorem Z3f : Tryz.prog.follows .mixedOrders = true := by kernel_rfl
theorem t_places_138 : tPlaces Tryz.prog 138 = some [(0, 1), (1, 1)] := by kernel_rfl
theorem t_places_140 : tPlaces Tryz.prog 140 = some [(0, 1), (1, 1)] := by kernel_rfl
theorem t_places_38 : tPlaces Tryz.prog 38 = some [(0, 1), (1, 1), (2, 1)] := by kernel_rfl
theorem Z9l : tPlaces Tryz.prog 47 = some [(0, 1), (1, 1), (2, 1), (3, 1), (4, 1), (5, 1)] := by kernel_rfl
theorem Z9q : tPlaces Tryz.prog 56 = some [(0, 1), (1, 1), (2, 1), (3, 1), (4, 1), (5, 1), (6, 1), (7, 1), (8, 1), (9, 1)] := by kernel_rfl
theorem t_places_77 : tPlaces Tryz.prog 77 = some [(0, 1), (1, 1), (2, 1)] := by kernel_rfl
theorem t_size_138 : Zhb Tryz.prog 138 = some 2 := by kernel_rfl
theorem t_size_155 : Zhb Tryz.prog 155 = some 5 := by kernel_rfl
theorem t_size_166 : Zhb Tryz.prog 166 = some 1 := by kernel_rfl
theorem Zgv : Zhb Tryz.prog 22 = some 1 := by kernel_rfl
theorem Z5i : Zhb Tryz.prog 23 = some 1 := by kernel_rfl
theorem Z1p : Zhb Tryz.prog 3 = some 1 := by kernel_rfl
theorem Z1o : Zhb Tryz.prog 38 = some 3 := by kernel_rfl
theorem t_size_4 : Zhb Tryz.prog 4 = some 1 := by kernel_rfl
theorem Zcs : Zhb Tryz.prog 45 = some 1 := by kernel_rfl
theorem Zw : Zhb Tryz.prog 47 = some 6 := by kernel_rfl
theorem t_size_53 : Zhb Tryz.prog 53 = some 1 := by kernel_rfl
theorem t_size_54 : Zhb Tryz.prog 54 = some 1 := by kernel_rfl
theorem Z0h : Zhb Tryz.prog 56 = some 10 := by kernel_rfl
theorem t_size_75 : Zhb Tryz.prog 75 = some 1 := by kernel_rfl
theorem Z20 : Zhb Tryz.prog 77 = some 3 := by kernel_rfl
theorem t_size_9 : Zhb Tryz.prog 9 = some 1 := by kernel_rfl
theorem Zfq : Tryz.prog.underlying 118 = some (.slice 166) := by kernel_rfl
theorem Z1y : Tryz.prog.underlying 22 = some (.slice 56) := by kernel_rfl
theorem Zfj : Tryz.prog.underlying 34 = some (.slice 38) := by kernel_rfl
theorem Z0y : Tryz.prog.underlying 45 = some (.slice 47) := by kernel_rfl
theorem Z3u : Tryz.prog.underlying 53 = some (.slice 9) := by kernel_rfl
theorem Z1u : Tryz.prog.underlying 54 = some (.slice 77) := by kernel_rfl
theorem Z3h : Tryz.prog.underlying 75 = some (.slice 3) := by kernel_rfl
theorem Z08 : Tryz.prog.underlying 9 = some .string := by kernel_rfl
theorem t_zero_103 : tZero Tryz.prog 103 = some (.nilFunc) := by kernel_rfl
theorem t_zero_138 : tZero Tryz.prog 138 = some (.agg #[.int .i64 0, .int .i64 0]) := by kernel_rfl
theorem t_zero_140 : tZero Tryz.prog 140 = some (.agg #[.slice none 0 0, .int .i64 0]) := by kernel_rfl
theorem t_zero_155 : tZero Tryz.prog 155 = some (.agg #[.bool false, .int .i64 0, .int .i64 0, .bool false, .bool false]) := by kernel_rfl
theorem t_zero_166 : tZero Tryz.prog 166 = some (.map none) := by kernel_rfl
theorem t_zero_22 : tZero Tryz.prog 22 = some (.slice none 0 0) := by kernel_rfl
theorem t_zero_23 : tZero Tryz.prog 23 = some (.int .i64 0) := by kernel_rfl
theorem t_zero_3 : tZero Tryz.prog 3 = some (.int .i64 0) := by kernel_rfl
theorem Z60 : tZero Tryz.prog 38 = some (.agg #[.int .i64 0, .string (⟨#[]⟩ : ByteArray), .int .i64 0]) := by kernel_rfl
theorem Z1t : tZero Tryz.prog 47 = some (.agg #[.int .i64 0, .int .i64 0, .int .i64 0, .string (⟨#[]⟩ : ByteArray), .string (⟨#[]⟩ : ByteArray), .slice none 0 0]) := by kernel_rfl
theorem Z2n : tZero Tryz.prog 56 = some (.agg #[.int .i64 0, .string (⟨#[]⟩ : ByteArray), .slice none 0 0, .slice none 0 0, .slice none 0 0, .int .i64 0, .slice none 0 0, .slice none 0 0, .slice none 0 0, .bool false]) := by kernel_rfl
theorem Z9y : tZero Tryz.prog 77 = some (.agg #[.slice none 0 0, .slice none 0 0, .slice none 0 0]) := by kernel_rfl
theorem t_zero_87 : tZero Tryz.prog 87 = some (.agg #[.int .i64 0, .int .i64 0]) := by kernel_rfl
theorem t_zero_9 : tZero Tryz.prog 9 = some (.string (⟨#[]⟩ : ByteArray)) := by kernel_rfl
end Go.Proofs.YtkodnhngllfemaaGreatDoor
