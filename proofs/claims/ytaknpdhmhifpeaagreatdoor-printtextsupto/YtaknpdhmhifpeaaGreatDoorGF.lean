import Derived.Test.YtaknpdhmhifpeaaGreatDoorE0
import Derived.Test.YtaknpdhmhifpeaaGreatDoorProg
set_option linter.unusedVariables false
set_option linter.unusedSimpArgs false
namespace Go.Proofs.YtaknpdhmhifpeaaGreatDoor
open Go
theorem glob_pow {h : Hp} {w : World} (hs : Sub h w) : Go.Lib.TabIs Tryz.prog w "internal/strconv.uint64pow10" .u64 Go.Lib.pow10Tab := by
  obtain ⟨h1, T, fr, h2⟩ := hs.glob.g3
  have h3 := (hs.lows 3 h1).trans h2
  have hg : Tryz.prog.globalNamed "internal/strconv.uint64pow10" = some 3 := by kernel_rfl
  unfold Go.Lib.TabIs World.var?
  rw [hg]
  show (match w.heap[3]? with | some (.cells cs _ _) => some cs | _ => none) = _
  rw [h3]
theorem t_agg_130 : tAgg Tryz.prog 130 = some false := by kernel_rfl
theorem Z2r : tAgg Tryz.prog 22 = some false := by kernel_rfl
theorem Z0t : tAgg Tryz.prog 3 = some false := by kernel_rfl
theorem Z0h : tAgg Tryz.prog 30 = some false := by kernel_rfl
theorem Z1u : tAgg Tryz.prog 32 = some true := by kernel_rfl
theorem Z65 : tAgg Tryz.prog 4 = some false := by kernel_rfl
theorem Zdl : tAgg Tryz.prog 41 = some false := by kernel_rfl
theorem Z6z : tAgg Tryz.prog 42 = some false := by kernel_rfl
theorem Zb8 : tAgg Tryz.prog 44 = some true := by kernel_rfl
theorem Z9g : tAgg Tryz.prog 45 = some false := by kernel_rfl
theorem t_agg_47 : tAgg Tryz.prog 47 = some true := by kernel_rfl
theorem t_agg_49 : tAgg Tryz.prog 49 = some false := by kernel_rfl
theorem t_agg_60 : tAgg Tryz.prog 60 = some true := by kernel_rfl
theorem Z73 : tAgg Tryz.prog 77 = some false := by kernel_rfl
theorem Z3l : tAgg Tryz.prog 9 = some false := by kernel_rfl
theorem t_arr_101 : Tryz.prog.underlying 101 = some (.array 7 45) := by kernel_rfl
theorem t_arr_102 : Tryz.prog.underlying 102 = some (.array 7 41) := by kernel_rfl
theorem t_bool_4 : Tryz.prog.underlying 4 = some .bool := by kernel_rfl
theorem t_bytes_5 : tBytes Tryz.prog 5 = some 1 := by kernel_rfl
theorem t_bytes_9 : tBytes Tryz.prog 9 = some 16 := by kernel_rfl
theorem t_cellsof_5 : Tryz.prog.cellsOf 5 = 1 := by kernel_rfl
theorem t_ent_10 : entB Tryz.prog 10 = true := by kernel_rfl
theorem t_ent_100 : entB Tryz.prog 100 = true := by kernel_rfl
theorem t_ent_101 : entB Tryz.prog 101 = true := by kernel_rfl
theorem t_ent_102 : entB Tryz.prog 102 = true := by kernel_rfl
theorem t_ent_107 : entB Tryz.prog 107 = true := by kernel_rfl
theorem t_ent_108 : entB Tryz.prog 108 = true := by kernel_rfl
theorem t_ent_109 : entB Tryz.prog 109 = true := by kernel_rfl
theorem t_ent_11 : entB Tryz.prog 11 = true := by kernel_rfl
theorem t_ent_110 : entB Tryz.prog 110 = true := by kernel_rfl
theorem t_ent_118 : entB Tryz.prog 118 = true := by kernel_rfl
theorem t_ent_119 : entB Tryz.prog 119 = true := by kernel_rfl
theorem t_ent_12 : entB Tryz.prog 12 = true := by kernel_rfl
theorem t_ent_125 : entB Tryz.prog 125 = true := by kernel_rfl
theorem t_ent_126 : entB Tryz.prog 126 = true := by kernel_rfl
theorem t_ent_13 : entB Tryz.prog 13 = true := by kernel_rfl
theorem t_ent_134 : entB Tryz.prog 134 = true := by kernel_rfl
theorem t_ent_135 : entB Tryz.prog 135 = true := by kernel_rfl
theorem t_ent_14 : entB Tryz.prog 14 = true := by kernel_rfl
theorem t_ent_140 : entB Tryz.prog 140 = true := by kernel_rfl
theorem t_ent_16 : entB Tryz.prog 16 = true := by kernel_rfl
theorem t_ent_17 : entB Tryz.prog 17 = true := by kernel_rfl
theorem t_ent_18 : entB Tryz.prog 18 = true := by kernel_rfl
theorem t_ent_19 : entB Tryz.prog 19 = true := by kernel_rfl
theorem t_ent_20 : entB Tryz.prog 20 = true := by kernel_rfl
theorem t_ent_21 : entB Tryz.prog 21 = true := by kernel_rfl
theorem t_ent_22 : entB Tryz.prog 22 = true := by kernel_rfl
theorem t_ent_23 : entB Tryz.prog 23 = true := by kernel_rfl
theorem t_ent_24 : entB Tryz.prog 24 = true := by kernel_rfl
theorem t_ent_25 : entB Tryz.prog 25 = true := by kernel_rfl
theorem t_ent_26 : entB Tryz.prog 26 = true := by kernel_rfl
theorem Z9f : entB Tryz.prog 27 = true := by kernel_rfl
theorem t_ent_28 : entB Tryz.prog 28 = true := by kernel_rfl
theorem Zea : entB Tryz.prog 29 = true := by kernel_rfl
theorem t_ent_30 : entB Tryz.prog 30 = true := by kernel_rfl
theorem Zdq : entB Tryz.prog 31 = true := by kernel_rfl
theorem t_ent_32 : entB Tryz.prog 32 = true := by kernel_rfl
theorem t_ent_33 : entB Tryz.prog 33 = true := by kernel_rfl
theorem t_ent_34 : entB Tryz.prog 34 = true := by kernel_rfl
theorem t_ent_35 : entB Tryz.prog 35 = true := by kernel_rfl
theorem t_ent_36 : entB Tryz.prog 36 = true := by kernel_rfl
theorem t_ent_37 : entB Tryz.prog 37 = true := by kernel_rfl
theorem t_ent_38 : entB Tryz.prog 38 = true := by kernel_rfl
theorem Z7m : entB Tryz.prog 39 = true := by kernel_rfl
theorem t_ent_40 : entB Tryz.prog 40 = true := by kernel_rfl
theorem t_ent_41 : entB Tryz.prog 41 = true := by kernel_rfl
theorem t_ent_42 : entB Tryz.prog 42 = true := by kernel_rfl
theorem t_ent_43 : entB Tryz.prog 43 = true := by kernel_rfl
theorem t_ent_44 : entB Tryz.prog 44 = true := by kernel_rfl
theorem t_ent_45 : entB Tryz.prog 45 = true := by kernel_rfl
theorem t_ent_46 : entB Tryz.prog 46 = true := by kernel_rfl
theorem t_ent_47 : entB Tryz.prog 47 = true := by kernel_rfl
theorem t_ent_48 : entB Tryz.prog 48 = true := by kernel_rfl
theorem t_ent_49 : entB Tryz.prog 49 = true := by kernel_rfl
theorem t_ent_50 : entB Tryz.prog 50 = true := by kernel_rfl
theorem t_ent_51 : entB Tryz.prog 51 = true := by kernel_rfl
theorem t_ent_52 : entB Tryz.prog 52 = true := by kernel_rfl
theorem t_ent_53 : entB Tryz.prog 53 = true := by kernel_rfl
theorem t_ent_54 : entB Tryz.prog 54 = true := by kernel_rfl
theorem t_ent_55 : entB Tryz.prog 55 = true := by kernel_rfl
theorem t_ent_56 : entB Tryz.prog 56 = true := by kernel_rfl
theorem t_ent_57 : entB Tryz.prog 57 = true := by kernel_rfl
theorem t_ent_58 : entB Tryz.prog 58 = true := by kernel_rfl
theorem Z0m : entB Tryz.prog 59 = true := by kernel_rfl
theorem t_ent_6 : entB Tryz.prog 6 = true := by kernel_rfl
theorem t_ent_60 : entB Tryz.prog 60 = true := by kernel_rfl
theorem t_ent_61 : entB Tryz.prog 61 = true := by kernel_rfl
theorem t_ent_62 : entB Tryz.prog 62 = true := by kernel_rfl
theorem t_ent_65 : entB Tryz.prog 65 = true := by kernel_rfl
theorem t_ent_66 : entB Tryz.prog 66 = true := by kernel_rfl
theorem t_ent_67 : entB Tryz.prog 67 = true := by kernel_rfl
theorem t_ent_68 : entB Tryz.prog 68 = true := by kernel_rfl
theorem t_ent_7 : entB Tryz.prog 7 = true := by kernel_rfl
theorem t_ent_75 : entB Tryz.prog 75 = true := by kernel_rfl
theorem t_ent_76 : entB Tryz.prog 76 = true := by kernel_rfl
theorem t_ent_77 : entB Tryz.prog 77 = true := by kernel_rfl
theorem t_ent_78 : entB Tryz.prog 78 = true := by kernel_rfl
theorem t_ent_79 : entB Tryz.prog 79 = true := by kernel_rfl
theorem t_ent_8 : entB Tryz.prog 8 = true := by kernel_rfl
theorem t_ent_80 : entB Tryz.prog 80 = true := by kernel_rfl
theorem t_ent_81 : entB Tryz.prog 81 = true := by kernel_rfl
theorem t_ent_82 : entB Tryz.prog 82 = true := by kernel_rfl
theorem t_ent_83 : entB Tryz.prog 83 = true := by kernel_rfl
theorem t_ent_84 : entB Tryz.prog 84 = true := by kernel_rfl
theorem t_ent_86 : entB Tryz.prog 86 = true := by kernel_rfl
theorem t_ent_87 : entB Tryz.prog 87 = true := by kernel_rfl
theorem t_ent_88 : entB Tryz.prog 88 = true := by kernel_rfl
theorem t_ent_9 : entB Tryz.prog 9 = true := by kernel_rfl
theorem t_ent_97 : entB Tryz.prog 97 = true := by kernel_rfl
theorem t_ent_98 : entB Tryz.prog 98 = true := by kernel_rfl
theorem t_ent_99 : entB Tryz.prog 99 = true := by kernel_rfl
theorem t_field_128_0 : fOff Tryz.prog 128 0 = some 0 := by kernel_rfl
theorem t_field_128_1 : fOff Tryz.prog 128 1 = some 1 := by kernel_rfl
theorem t_field_128_2 : fOff Tryz.prog 128 2 = some 2 := by kernel_rfl
theorem t_field_128_3 : fOff Tryz.prog 128 3 = some 3 := by kernel_rfl
theorem t_field_128_4 : fOff Tryz.prog 128 4 = some 4 := by kernel_rfl
theorem Z2d : fOff Tryz.prog 32 0 = some 0 := by kernel_rfl
theorem Z88 : fOff Tryz.prog 32 1 = some 1 := by kernel_rfl
theorem Z7y : fOff Tryz.prog 32 2 = some 2 := by kernel_rfl
theorem Z4y : fOff Tryz.prog 32 3 = some 3 := by kernel_rfl
theorem Zb7 : fOff Tryz.prog 32 4 = some 4 := by kernel_rfl
theorem Z0z : fOff Tryz.prog 32 5 = some 5 := by kernel_rfl
theorem Z1g : fOff Tryz.prog 44 0 = some 0 := by kernel_rfl
theorem Z62 : fOff Tryz.prog 44 1 = some 1 := by kernel_rfl
theorem Z5h : fOff Tryz.prog 44 2 = some 2 := by kernel_rfl
theorem Z72 : fOff Tryz.prog 44 3 = some 3 := by kernel_rfl
theorem Z1f : fOff Tryz.prog 44 4 = some 4 := by kernel_rfl
theorem Z3s : fOff Tryz.prog 44 5 = some 5 := by kernel_rfl
theorem Z48 : fOff Tryz.prog 44 6 = some 6 := by kernel_rfl
theorem Z2e : fOff Tryz.prog 44 7 = some 7 := by kernel_rfl
theorem Z3f : fOff Tryz.prog 44 8 = some 8 := by kernel_rfl
theorem Z33 : fOff Tryz.prog 44 9 = some 9 := by kernel_rfl
theorem Z50 : fOff Tryz.prog 47 0 = some 0 := by kernel_rfl
theorem Z49 : fOff Tryz.prog 47 1 = some 1 := by kernel_rfl
theorem Z99 : fOff Tryz.prog 47 2 = some 2 := by kernel_rfl
theorem Zed : fOff Tryz.prog 51 1 = some 1 := by kernel_rfl
theorem t_field_53_0 : fOff Tryz.prog 53 0 = some 0 := by kernel_rfl
theorem Z9h : fOff Tryz.prog 53 1 = some 2 := by kernel_rfl
theorem Z1z : fOff Tryz.prog 55 0 = some 0 := by kernel_rfl
theorem t_field_60_0 : fOff Tryz.prog 60 0 = some 0 := by kernel_rfl
theorem t_field_60_1 : fOff Tryz.prog 60 1 = some 1 := by kernel_rfl
theorem Z5z : fOff Tryz.prog 60 2 = some 2 := by kernel_rfl
theorem t_field_75_0 : fOff Tryz.prog 75 0 = some 0 := by kernel_rfl
theorem t_field_75_1 : fOff Tryz.prog 75 1 = some 1 := by kernel_rfl
theorem t_field_91_0 : fOff Tryz.prog 91 0 = some 0 := by kernel_rfl
theorem Zez : fOff Tryz.prog 91 1 = some 1 := by kernel_rfl
theorem t_fld_60_2 : tFld Tryz.prog 60 2 = some (4, 2) := by kernel_rfl
theorem t_int_104 : Tryz.prog.underlying 104 = some (.int .u64) := by kernel_rfl
theorem Z9o : Tryz.prog.underlying 3 = some (.int .i64) := by kernel_rfl
theorem t_int_5 : Tryz.prog.underlying 5 = some (.int .u8) := by kernel_rfl
theorem t_map_130 : Tryz.prog.underlying 130 = some (.map 3 128) := by kernel_rfl
theorem Z7j : Tryz.prog.underlying 93 = some (.map 3 91) := by kernel_rfl
theorem Z4c : Tryz.prog.follows .mixedOrders = true := by kernel_rfl
theorem t_places_32 : tPlaces Tryz.prog 32 = some [(0, 1), (1, 1), (2, 1), (3, 1), (4, 1), (5, 1)] := by kernel_rfl
theorem t_places_44 : tPlaces Tryz.prog 44 = some [(0, 1), (1, 1), (2, 1), (3, 1), (4, 1), (5, 1), (6, 1), (7, 1), (8, 1), (9, 1)] := by kernel_rfl
theorem t_places_60 : tPlaces Tryz.prog 60 = some [(0, 1), (1, 1), (2, 1)] := by kernel_rfl
theorem Z3t : tPlaces Tryz.prog 91 = some [(0, 1), (1, 1)] := by kernel_rfl
theorem t_ptr_83 : Tryz.prog.underlying 83 = some (.pointer 5) := by kernel_rfl
theorem t_size_128 : Zff Tryz.prog 128 = some 5 := by kernel_rfl
theorem Zeb : Zff Tryz.prog 3 = some 1 := by kernel_rfl
theorem Zu : Zff Tryz.prog 32 = some 6 := by kernel_rfl
theorem t_size_4 : Zff Tryz.prog 4 = some 1 := by kernel_rfl
theorem t_size_41 : Zff Tryz.prog 41 = some 1 := by kernel_rfl
theorem Z2g : Zff Tryz.prog 44 = some 10 := by kernel_rfl
theorem t_size_45 : Zff Tryz.prog 45 = some 1 := by kernel_rfl
theorem Z56 : Zff Tryz.prog 47 = some 3 := by kernel_rfl
theorem t_size_49 : Zff Tryz.prog 49 = some 1 := by kernel_rfl
theorem t_size_5 : Zff Tryz.prog 5 = some 1 := by kernel_rfl
theorem t_size_60 : Zff Tryz.prog 60 = some 3 := by kernel_rfl
theorem Z6k : Zff Tryz.prog 9 = some 1 := by kernel_rfl
theorem t_size_91 : Zff Tryz.prog 91 = some 2 := by kernel_rfl
theorem Z1e : Tryz.prog.underlying 22 = some (.slice 44) := by kernel_rfl
theorem Zx : Tryz.prog.underlying 30 = some (.slice 32) := by kernel_rfl
theorem Z26 : Tryz.prog.underlying 41 = some (.slice 9) := by kernel_rfl
theorem Z32 : Tryz.prog.underlying 42 = some (.slice 47) := by kernel_rfl
theorem Z43 : Tryz.prog.underlying 45 = some (.slice 3) := by kernel_rfl
theorem Z84 : Tryz.prog.underlying 49 = some (.slice 5) := by kernel_rfl
theorem Z3b : Tryz.prog.underlying 9 = some .string := by kernel_rfl
theorem t_zero_128 : tZero Tryz.prog 128 = some (.agg #[.bool false, .int .i64 0, .int .i64 0, .bool false, .bool false]) := by kernel_rfl
theorem Zcd : tZero Tryz.prog 32 = some (.agg #[.int .i64 0, .int .i64 0, .int .i64 0, .string (⟨#[]⟩ : ByteArray), .string (⟨#[]⟩ : ByteArray), .slice none 0 0]) := by kernel_rfl
theorem t_zero_44 : tZero Tryz.prog 44 = some (.agg #[.int .i64 0, .string (⟨#[]⟩ : ByteArray), .slice none 0 0, .slice none 0 0, .slice none 0 0, .int .i64 0, .slice none 0 0, .slice none 0 0, .slice none 0 0, .bool false]) := by kernel_rfl
theorem t_zero_47 : tZero Tryz.prog 47 = some (.agg #[.slice none 0 0, .slice none 0 0, .slice none 0 0]) := by kernel_rfl
theorem t_zero_5 : tZero Tryz.prog 5 = some (.int .u8 0) := by kernel_rfl
theorem t_zero_55 : tZero Tryz.prog 55 = some (.agg #[.pointer none, .slice none 0 0, .string (⟨#[]⟩ : ByteArray)]) := by kernel_rfl
theorem t_zero_60 : tZero Tryz.prog 60 = some (.agg #[.int .i64 0, .int .i64 0, .bool false]) := by kernel_rfl
theorem t_zero_75 : tZero Tryz.prog 75 = some (.agg #[.int .i64 0, .int .i64 0]) := by kernel_rfl
theorem Zeq : tZero Tryz.prog 9 = some (.string (⟨#[]⟩ : ByteArray)) := by kernel_rfl
theorem Z4p : tZero Tryz.prog 91 = some (.agg #[.string (⟨#[]⟩ : ByteArray), .int .i64 0]) := by kernel_rfl
end Go.Proofs.YtaknpdhmhifpeaaGreatDoor
