import Derived.Test.YtaknpdhmhifpeaaGreatDoorE0
import Derived.Test.YtaknpdhmhifpeaaGreatDoorProg
import Derived.Test.YtaknpdhmhifpeaaGreatDoorGF
import Derived.Test.YtaknpdhmhifpeaaGreatDoorGM
set_option linter.unusedVariables false
set_option linter.unusedSimpArgs false
set_option maxRecDepth 20000
set_option maxHeartbeats 4000000
namespace Go.Proofs.YtaknpdhmhifpeaaGreatDoor
open Go
abbrev b'0 : ByteArray := ⟨#[100, 101, 108, 97, 121]⟩
abbrev b'1 : ByteArray := ⟨#[100, 105, 118]⟩
abbrev b'2 : ByteArray := ⟨#[100, 111]⟩
abbrev b'3 : ByteArray := ⟨#[101, 108, 115, 101]⟩
abbrev b'4 : ByteArray := ⟨#[101, 108, 115, 105, 102, 32]⟩
abbrev b'5 : ByteArray := ⟨#[101, 108, 115, 105, 102]⟩
abbrev b'6 : ByteArray := ⟨#[101, 110, 100, 95, 102, 111, 114]⟩
abbrev b'7 : ByteArray := ⟨#[101, 110, 100, 95, 105, 102]⟩
abbrev b'8 : ByteArray := ⟨#[101, 110, 100, 95, 114, 101, 112, 101, 97, 116]⟩
abbrev b'9 : ByteArray := ⟨#[101, 110, 100, 95, 119, 104, 105, 108, 101]⟩
abbrev b'10 : ByteArray := ⟨#[101, 110, 100, 95, 99, 97, 115, 101]⟩
abbrev b'11 : ByteArray := ⟨#[101, 110, 100]⟩
abbrev b'12 : ByteArray := ⟨#[101, 110, 116, 101, 114]⟩
abbrev b'13 : ByteArray := ⟨#[101, 113]⟩
abbrev b'14 : ByteArray := ⟨#[101, 118, 101, 114, 121]⟩
abbrev b'15 : ByteArray := ⟨#[101, 120, 105, 116]⟩
abbrev b'16 : ByteArray := ⟨#[102, 111, 114, 32]⟩
abbrev b'17 : ByteArray := ⟨#[102, 111, 114]⟩
abbrev b'18 : ByteArray := ⟨#[102, 114, 111, 109]⟩
abbrev b'19 : ByteArray := ⟨#[102, 117, 110, 99, 116, 105, 111, 110]⟩
abbrev b'20 : ByteArray := ⟨#[102, 97, 108, 108]⟩
abbrev b'21 : ByteArray := ⟨#[102, 97, 108, 115, 101]⟩
abbrev b'22 : ByteArray := ⟨#[102, 98, 100]⟩
abbrev b'23 : ByteArray := ⟨#[103, 101]⟩
abbrev b'24 : ByteArray := ⟨#[103, 116]⟩
abbrev b'25 : ByteArray := ⟨#[105, 102, 32]⟩
abbrev b'26 : ByteArray := ⟨#[105, 102]⟩
abbrev b'27 : ByteArray := ⟨#[105, 108]⟩
abbrev b'28 : ByteArray := ⟨#[105, 110, 105, 116, 105, 97, 108]⟩
abbrev b'29 : ByteArray := ⟨#[105, 110, 112, 117, 116]⟩
abbrev b'30 : ByteArray := ⟨#[105, 110, 116]⟩
abbrev b'31 : ByteArray := ⟨#[106, 109, 112, 99, 110]⟩
abbrev b'32 : ByteArray := ⟨#[106, 109, 112, 99]⟩
abbrev b'33 : ByteArray := ⟨#[106, 109, 112]⟩
abbrev b'34 : ByteArray := ⟨#[106, 117, 109, 112]⟩
abbrev b'35 : ByteArray := ⟨#[108, 100, 110]⟩
abbrev b'36 : ByteArray := ⟨#[108, 100]⟩
abbrev b'37 : ByteArray := ⟨#[108, 101, 97, 118, 101]⟩
abbrev b'38 : ByteArray := ⟨#[108, 101]⟩
abbrev b'39 : ByteArray := ⟨#[108, 105, 109, 105, 116, 95]⟩
abbrev b'40 : ByteArray := ⟨#[108, 111, 99, 97, 108]⟩
abbrev b'41 : ByteArray := ⟨#[108, 116]⟩
abbrev b'42 : ByteArray := ⟨#[109, 111, 100]⟩
abbrev b'43 : ByteArray := ⟨#[109, 117, 108]⟩
abbrev b'44 : ByteArray := ⟨#[109, 97, 99, 114, 111]⟩
abbrev b'45 : ByteArray := ⟨#[10]⟩
abbrev b'46 : ByteArray := ⟨#[110, 101]⟩
abbrev b'47 : ByteArray := ⟨#[110, 111, 116, 32]⟩
abbrev b'48 : ByteArray := ⟨#[110, 111, 116]⟩
abbrev b'49 : ByteArray := ⟨#[111, 102]⟩
abbrev b'50 : ByteArray := ⟨#[111, 114, 110]⟩
abbrev b'51 : ByteArray := ⟨#[111, 114]⟩
abbrev b'52 : ByteArray := ⟨#[111, 117, 116, 112, 117, 116]⟩
abbrev b'53 : ByteArray := ⟨#[112, 104, 97, 115, 101]⟩
abbrev b'54 : ByteArray := ⟨#[112, 114, 105, 111, 114, 105, 116, 121]⟩
abbrev b'55 : ByteArray := ⟨#[112, 114, 111, 103, 114, 97, 109]⟩
abbrev b'56 : ByteArray := ⟨#[114, 101, 112, 101, 97, 116, 10]⟩
abbrev b'57 : ByteArray := ⟨#[114, 101, 112, 101, 97, 116]⟩
abbrev b'58 : ByteArray := ⟨#[114, 101, 115, 101, 116]⟩
abbrev b'59 : ByteArray := ⟨#[114, 101, 116, 117, 114, 110]⟩
abbrev b'60 : ByteArray := ⟨#[114, 101, 116, 97, 105, 110]⟩
abbrev b'61 : ByteArray := ⟨#[114, 101, 116, 99, 110]⟩
abbrev b'62 : ByteArray := ⟨#[114, 101, 116, 99]⟩
abbrev b'63 : ByteArray := ⟨#[114, 101, 116]⟩
abbrev b'64 : ByteArray := ⟨#[114, 105, 115, 101]⟩
abbrev b'65 : ByteArray := ⟨#[114, 117, 110, 103]⟩
abbrev b'66 : ByteArray := ⟨#[114, 117, 110]⟩
abbrev b'67 : ByteArray := ⟨#[115, 101, 116]⟩
abbrev b'68 : ByteArray := ⟨#[115, 102, 99]⟩
abbrev b'69 : ByteArray := ⟨#[115, 116, 101, 112]⟩
abbrev b'70 : ByteArray := ⟨#[115, 116, 110]⟩
abbrev b'71 : ByteArray := ⟨#[115, 116]⟩
abbrev b'72 : ByteArray := ⟨#[115, 117, 98]⟩
abbrev b'73 : ByteArray := ⟨#[116, 104, 101, 110]⟩
abbrev b'74 : ByteArray := ⟨#[116, 105, 109, 101]⟩
abbrev b'75 : ByteArray := ⟨#[116, 111]⟩
abbrev b'76 : ByteArray := ⟨#[116, 114, 117, 101]⟩
abbrev b'77 : ByteArray := ⟨#[116, 114, 97, 110, 115, 105, 116, 105, 111, 110]⟩
abbrev b'78 : ByteArray := ⟨#[116, 97, 115, 107]⟩
abbrev b'79 : ByteArray := ⟨#[117, 110, 116, 105, 108, 32]⟩
abbrev b'80 : ByteArray := ⟨#[117, 110, 116, 105, 108]⟩
abbrev b'81 : ByteArray := ⟨#[119, 104, 101, 110]⟩
abbrev b'82 : ByteArray := ⟨#[119, 104, 105, 108, 101, 32]⟩
abbrev b'83 : ByteArray := ⟨#[119, 104, 105, 108, 101]⟩
abbrev b'84 : ByteArray := ⟨#[120, 111, 114, 110]⟩
abbrev b'85 : ByteArray := ⟨#[120, 111, 114]⟩
abbrev b'86 : ByteArray := ⟨#[120]⟩
abbrev b'87 : ByteArray := ⟨#[32, 100, 111, 10]⟩
abbrev b'88 : ByteArray := ⟨#[32, 100, 111]⟩
abbrev b'89 : ByteArray := ⟨#[32, 111, 102, 10]⟩
abbrev b'90 : ByteArray := ⟨#[32, 111, 102]⟩
abbrev b'91 : ByteArray := ⟨#[32, 116, 104, 101, 110, 10]⟩
abbrev b'92 : ByteArray := ⟨#[32, 116, 104, 101, 110]⟩
abbrev b'93 : ByteArray := ⟨#[32, 116, 111, 32]⟩
abbrev b'94 : ByteArray := ⟨#[32, 32, 32, 32]⟩
abbrev b'95 : ByteArray := ⟨#[32, 32]⟩
abbrev b'96 : ByteArray := ⟨#[32, 58, 61, 32]⟩
abbrev b'97 : ByteArray := ⟨#[32, 98, 121, 32]⟩
abbrev b'98 : ByteArray := ⟨#[32]⟩
abbrev b'99 : ByteArray := ⟨#[40]⟩
abbrev b'100 : ByteArray := ⟨#[41, 59]⟩
abbrev b'101 : ByteArray := ⟨#[42]⟩
abbrev b'102 : ByteArray := ⟨#[43]⟩
abbrev b'103 : ByteArray := ⟨#[44, 32]⟩
abbrev b'104 : ByteArray := ⟨#[45]⟩
abbrev b'105 : ByteArray := ⟨#[47]⟩
abbrev b'106 : ByteArray := ⟨#[58, 10]⟩
abbrev b'107 : ByteArray := ⟨#[58]⟩
abbrev b'108 : ByteArray := ⟨#[59]⟩
abbrev b'109 : ByteArray := ⟨#[60, 61]⟩
abbrev b'110 : ByteArray := ⟨#[60, 62]⟩
abbrev b'111 : ByteArray := ⟨#[60]⟩
abbrev b'112 : ByteArray := ⟨#[61]⟩
abbrev b'113 : ByteArray := ⟨#[62, 61]⟩
abbrev b'114 : ByteArray := ⟨#[62]⟩
abbrev b'115 : ByteArray := ⟨#[91]⟩
abbrev b'116 : ByteArray := ⟨#[93]⟩
abbrev b'117 : ByteArray := ⟨#[97, 100, 100]⟩
abbrev b'118 : ByteArray := ⟨#[97, 110, 100, 110]⟩
abbrev b'119 : ByteArray := ⟨#[97, 110, 100]⟩
abbrev b'120 : ByteArray := ⟨#[97, 116]⟩
abbrev b'121 : ByteArray := ⟨#[98, 108, 111, 99, 107]⟩
abbrev b'122 : ByteArray := ⟨#[98, 111, 111, 108]⟩
abbrev b'123 : ByteArray := ⟨#[98, 111, 120]⟩
abbrev b'124 : ByteArray := ⟨#[98, 121]⟩
abbrev b'125 : ByteArray := ⟨#[99, 97, 108, 99, 110]⟩
abbrev b'126 : ByteArray := ⟨#[99, 97, 108, 99]⟩
abbrev b'127 : ByteArray := ⟨#[99, 97, 108]⟩
abbrev b'128 : ByteArray := ⟨#[99, 97, 115, 101, 32]⟩
abbrev b'129 : ByteArray := ⟨#[99, 97, 115, 101]⟩
abbrev Z2c : ByteArray := ⟨#[]⟩
def C_strings_TrimSuffix (φ : ByteArray → ByteArray → Option ByteArray) : Prop := ∀ ⦃x1 : ByteArray⦄ ⦃x2 : ByteArray⦄ ⦃r : ByteArray⦄, φ x1 x2 = some r → ∀ ⦃w0 : World⦄ ⦃h0 : Hp⦄, Sub h0 w0 →
  Calls Tryz.prog 49 #[.string x1, .string x2] w0 fun e w1 => ∃ v, e = .returned v ∧ ∃ h1, Stp [] w0 h0 w1 h1 ∧ v = .string r
theorem ok_strings_TrimSuffix (k : Nat) : C_strings_TrimSuffix (Z5k k) := by
  intro x1 x2 r HF w0 h0 hs0
  simp only [Z5k] at HF
  obtain ⟨hn, HF⟩ := Zj HF
  cases HF
  refine (Tryz.strings_TrimSuffix x1 x2 w0 hn).mono ?_
  rintro e w1 ⟨rfl, rfl⟩
  exact ⟨_, rfl, h0, Stp.refl hs0 _, rfl⟩

def C_strings_Split (φ : ByteArray → ByteArray → Option (List ByteArray)) : Prop := ∀ ⦃x1 : ByteArray⦄ ⦃x2 : ByteArray⦄ ⦃r : List ByteArray⦄, φ x1 x2 = some r → ∀ ⦃w0 : World⦄ ⦃h0 : Hp⦄, Sub h0 w0 →
  Calls Tryz.prog 48 #[.string x1, .string x2] w0 fun e w1 => ∃ v, e = .returned v ∧ ∃ h1, Stp [] w0 h0 w1 h1 ∧ RS h1 v r
theorem ok_strings_Split (k : Nat) : C_strings_Split (Z93 k) := by
  intro x1 x2 r HF w0 h0 hs0
  simp only [Z93] at HF
  obtain ⟨hn, HF⟩ := Zj HF
  cases HF
  obtain ⟨m, hm⟩ := hs0.glob.g4
  have hlen := (Lib.splitB_all x2 hn.2 0 _ x1 rfl)
  refine (Tryz.strings_Split x1 x2 m w0 hn.1 (hs0.at_ _ _ _ hm) hn.2).mono ?_
  rintro e w1 ⟨rfl, rfl⟩
  refine ⟨_, rfl, _, alloc_row hs0 _ 9, ?_⟩
  exact strs_RS _ (by simpa using hlen) (fun o => hadd_new h0 _ _ o)

def C_strings_TrimLeft (φ : ByteArray → ByteArray → Option ByteArray) : Prop := ∀ ⦃x1 : ByteArray⦄ ⦃x2 : ByteArray⦄ ⦃r : ByteArray⦄, φ x1 x2 = some r → ∀ ⦃w0 : World⦄ ⦃h0 : Hp⦄, Sub h0 w0 →
  Calls Tryz.prog 51 #[.string x1, .string x2] w0 fun e w1 => ∃ v, e = .returned v ∧ ∃ h1, Stp [] w0 h0 w1 h1 ∧ v = .string r
theorem ok_strings_TrimLeft (k : Nat) : C_strings_TrimLeft (Z8r k) := by
  intro x1 x2 r HF w0 h0 hs0
  simp only [Z8r] at HF
  obtain ⟨c, hc, h1, rfl⟩ := trimL_some HF
  subst h1
  refine (Tryz.strings_TrimLeft_one x1 c hc w0).mono ?_
  rintro e w1 ⟨rfl, rfl⟩
  exact ⟨_, rfl, h0, Stp.refl hs0 _, rfl⟩

def C_print_Line_1 (φ : ByteArray → Option ByteArray) : Prop := ∀ ⦃x1 : ByteArray⦄ ⦃r : ByteArray⦄, φ x1 = some r → ∀ ⦃w0 : World⦄ ⦃h0 : Hp⦄, Sub h0 w0 →
  Calls Tryz.prog 50 #[.string x1] w0 fun e w1 => ∃ v, e = .returned v ∧ ∃ h1, Stp [] w0 h0 w1 h1 ∧ v = .string r
theorem s_print_Line_1 (k : Nat) : C_print_Line_1 (Zaa k) := by
 intro x1 r HF w0 h0  hs0 
 have S0 : Stp [] w0 h0 w0 h0 := Stp.refl hs0 _
 refine Z66 (n := 5) Tryz.func50 rfl Tryz.ntmps50 rfl [(0, .string x1)] rfl <| Za <| Z0 <| Wa rfl rfl <| Z7 <| Z5 <| Za <| Z0 <| Wm rfl rfl ?_
 obtain ⟨r2, hr3, HF⟩ := Z6 HF
 refine Wc rfl (Zi (vs := [.string x1, .string b'98]) rfl t_ent_51) (ok_strings_TrimLeft _ hr3 S0.sub) ?_
 rintro _ w5 ⟨h6, s7, rfl⟩
 have S8 := S0.trans0 s7
 refine Wa rfl rfl <| Z7 <| Z5 <| Z09 <| Zt rfl rfl ?_
 obtain rfl := Option.some.inj HF
 exact ⟨_, rfl, h6, S8, rfl⟩
theorem ok_print_Line_1 (k : Nat) : C_print_Line_1 (Zaa k) := s_print_Line_1 k

def C_strings_Join (φ : (List ByteArray) → ByteArray → Option ByteArray) : Prop := ∀ ⦃xs1 : List ByteArray⦄ ⦃x4 : ByteArray⦄ ⦃r : ByteArray⦄, φ xs1 x4 = some r → ∀ ⦃w0 : World⦄ ⦃h0 : Hp⦄ ⦃v2 : Value⦄, Sub h0 w0 → RS h0 v2 xs1 →
  Calls Tryz.prog 67 #[v2, .string x4] w0 fun e w1 => ∃ v, e = .returned v ∧ ∃ h1, Stp [] w0 h0 w1 h1 ∧ v = .string r
theorem Zbf (k : Nat) : C_strings_Join (Z4h k) := by
  intro xs1 x4 r HF w0 h0 v2 hs0 rs3
  simp only [Z4h] at HF
  obtain ⟨hn, HF⟩ := Zj HF
  cases HF
  obtain ⟨A, c, rfl, hc, hr⟩ := rs3
  by_cases hx : xs1 = []
  · subst hx
    refine (Tryz.strings_Join_none A c x4 w0).mono ?_
    rintro e w1 ⟨rfl, rfl⟩
    exact ⟨_, rfl, h0, Stp.refl hs0 _, rfl⟩
  · obtain ⟨b, o, rfl, hj⟩ := hr hx
    have hcells : ∀ (j : Nat) x, xs1[j]? = some x → w0.cell? ⟨b, o + j, none⟩ = some (.string x) := fun j x hj1 => by
      obtain ⟨cs, q1, q2⟩ := hj j x hj1
      have q1' : cs = [.string x] := q1
      subst q1'
      have := hs0.at_ _ _ _ (q2 0 _ rfl)
      simpa [Rp.sz] using this
    have hbk : b < w0.heap.size := World.block_lt_of_cell? w0 _ (hcells 0 _ (List.getElem?_eq_getElem (List.length_pos_iff.2 hx)))
    refine (Tryz.strings_Join b o c xs1 x4 w0 hcells hbk hn.1 hc hn.2).mono ?_
    rintro e w1 ⟨rfl, hb⟩
    exact ⟨_, rfl, h0, Stp.of_below hs0 hb, rfl⟩

def Z68 (φ : (List ByteArray) → ByteArray → Option ByteArray) : Prop := ∀ ⦃xs1 : List ByteArray⦄ ⦃x4 : ByteArray⦄ ⦃r : ByteArray⦄, φ xs1 x4 = some r → ∀ ⦃w0 : World⦄ ⦃h0 : Hp⦄ ⦃v2 : Value⦄, Sub h0 w0 → RS h0 v2 xs1 →
  Calls Tryz.prog 47 #[v2, .string x4, .func (.func 50) #[] #[]] w0 fun e w1 => ∃ v, e = .returned v ∧ ∃ h1, Stp [] w0 h0 w1 h1 ∧ v = .string r
theorem s_print_Joined_string (k : Nat) (IH : ∀ j, j ≤ k → Z68 (Z0o j).print_Joined_string) : Z68 (Z8v k (Z0o k)) := by
 intro xs1 x4 r HF w0 h0 v2 hs0 rs3
 have S0 : Stp [] w0 h0 w0 h0 := Stp.refl hs0 _
 refine Z66 (n := 26) Tryz.func47 rfl Tryz.ntmps47 rfl [(0, v2), (1, .string x4), (2, .func (.func 50) #[] #[])] rfl <| Za <| Z0 <| Wa rfl rfl <| Z7 <| Z5 <| Za <| Z0 <| Wa rfl rfl <| Z7 <| Z5 <| Za <| Za <| Z0 <| Wm rfl rfl ?_
 obtain ⟨A5, c6, rfl, rs7⟩ := RS.form rs3
 refine Wv rfl (Z0v rfl Z26) <| Wm rfl rfl <| Z7 <| Z5 <| Z0c <| Z4j <| Z8e [1, 2, 7, 10, 11, 12] [(1, .string x4), (2, .func (.func 50) #[] #[]), (7, .slice none 0 0), (10, .slice A5 (xs1).length c6), (11, vi (xs1.length : Int)), (12, vi 0)] rfl <| Z4m (K := k) (fun j E w9 => ∃ (h8 : Hp) (xs12 : List ByteArray) (v13 : Value) (x16 : Int), (Z0o j).print_Joined_string_l1 xs1 x4 xs12 x16 = some r ∧ E = [(1, .string x4), (2, .func (.func 50) #[] #[]), (7, v13), (10, .slice A5 (xs1).length c6), (11, vi (xs1.length : Int)), (12, vi x16)] ∧ Stp [] w0 h0 w9 h8 ∧ Hle h0 h8 ∧ RS h8 v13 xs12 ∧ Own w9 h8 w0.heap.size 9 1 v13 xs12.length) ?_ ?_ (j := k) (Nat.le_refl _) ?_
 ·rintro E w9 ⟨_, _, _, _, HF, _⟩; cases HF
 ·rintro j17 hj19 IHL18 E w9 ⟨h8, xs12, v13, x16, HF, rfl, S11, le10, rs14, ow15⟩
  refine Za <| Z0 <| Wv rfl (Z6q rfl rfl) <| Z7 <| Z5 <| Z04 (fun E w29 => ∃ (h28 : Hp) (xs32 : List ByteArray) (v33 : Value), Z80 j17 (Z0o j17) xs1 x4 x16 xs32 = some r ∧ E = [(1, .string x4), (2, .func (.func 50) #[] #[]), (7, v33), (10, .slice A5 (xs1).length c6), (11, vi (xs1.length : Int)), (12, vi x16)] ∧ Stp [] w0 h0 w29 h28 ∧ Hle h8 h28 ∧ RS h28 v33 xs32 ∧ Own w29 h28 w0.heap.size 9 1 v33 xs32.length) ?_ ?_
  ·rintro E w29 ⟨h28, xs32, v33, HF, rfl, S31, le30, rs34, ow35⟩
   refine Za <| Z0c <| Za <| Z0 ?_
   obtain ⟨e36, he37, HF⟩ := Z6 HF
   obtain ⟨b38, o39, rfl, h41, h42, ra40⟩ := RS.atO (rs7.mono ((le10).trans le30)) he37
   obtain ⟨cs43, r44, hc45⟩ := ra40
   obtain rfl := (show cs43 = _ from r44)
   refine Wv rfl (Zk rfl rfl Z26 Z6k h41 h42) <| Wv rfl (Z8 rfl Z3l (S31.sub.at_ _ _ _ (hc45 0 _ rfl))) <| Wa rfl rfl <| Z7 <| Z5 <| Z0 <| Wm rfl rfl <| Wm rfl rfl <| Wm rfl rfl ?_
   obtain ⟨r46, hr47, HF⟩ := Z6 HF
   refine Wc rfl (oc_val (vs := [.string e36]) (caps := []) rfl rfl t_ent_50) (ok_print_Line_1 _ hr47 S31.sub) ?_
   rintro _ w49 ⟨h50, s51, rfl⟩
   have S52 := S31.trans0 s51
   refine Z3d (us := [.string r46]) (cs := [.string r46]) rfl rfl rfl Z26 Z6k Zeq rfl (Z0i rfl cl_nil) rfl rfl rfl S52.sub (fun w53 h54 b55 hb56 s57 hk58 hc59 => ?_)
   have S60 := S52.trans0 s57
   have rs61 : RS h54 (sl b55 0 1 1) ([r46] : List ByteArray) := RS.litL _ [[.string r46]] rfl rfl hc59 ⟨rfl, trivial⟩
   have ow62 := Own.lit (base := w0.heap.size) (sz := 1) (m := 1) hk58 hc59 (by rw [hb56]; exact S52.size) rfl (by decide)
   obtain ⟨hl63, HF⟩ := Zj HF
   refine WL.append (xs := (xs32 : List ByteArray)) (ys := [r46]) rfl rfl rfl rfl Z26 Z6k Zeq rfl t_bytes_9 rfl ((ow35.step0 s51).step0 s57) (rs34.mono ((s51.le).trans s57.le)) rs61 hl63 S60.sub S60.size (by rw [S60.eqb]; exact hs0.big) (fun v64 w65 h66 rs67 ow68 s69 at70 => ?_)
   have S71 := S60.trans s69 (fun i hi => .inr (((ow35.step0 s51).step0 s57).base_le i hi))
   refine Wa rfl rfl <| Z7 <| Zv <| Z5 <| Z0 <| Wv rfl (Z2v rfl rfl) <| Wm rfl rfl <| Z7 <| Z2x <| Z8e [1, 2, 7, 10, 11, 12] [(1, .string x4), (2, .func (.func 50) #[] #[]), (7, v64), (10, sl b38 o39 (xs1).length c6), (11, vi (xs1.length : Int)), (12, vi (IntKind.i64.wrap (x16 + 1)))] rfl ?_
   exact IHL18 j17 (Nat.le_refl _) _ _ ⟨h66, xs32 ++ [r46], v64, IntKind.i64.wrap (x16 + 1), HF, rfl, S71, (le10).trans ((le30).trans ((s51.le).trans ((s57.le).trans s69.le))), rs67, ow68⟩
  intro J72
  refine Z12 HF rfl (fun HF => ?_) (fun HF => ?_)
  ·refine Zm <| Z06 [1, 2, 7, 10, 11, 12] _ rfl ?_
   exact J72 ⟨h8, xs12, v13, HF, rfl, S11, Hle.refl _, rs14, ow15⟩
  refine Z4b <| Zr <| Zr <| Z0x <| Z5 <| Za <| Z0 <| Wm rfl rfl <| Wm rfl rfl ?_
  obtain ⟨r21, hr22, HF⟩ := Z6 HF
  refine Wc rfl (Zi (vs := [v13, .string x4]) rfl t_ent_67) (Zbf _ hr22 S11.sub rs14) ?_
  rintro _ w24 ⟨h25, s26, rfl⟩
  have S27 := S11.trans0 s26
  refine Wa rfl rfl <| Z7 <| Z5 <| Z09 <| Zt rfl rfl ?_
  obtain rfl := Option.some.inj HF
  exact ⟨_, rfl, h25, S27, rfl⟩
 exact ⟨h0, ([] : List ByteArray), .slice none 0 0, 0, HF, rfl, S0, Hle.refl _, (RS.nil _), (Own.nil _ _ _ _ _)⟩
theorem Zfc : ∀ k j, j ≤ k → Z68 (Z0o j).print_Joined_string := by
  intro k
  induction k with
  | zero =>
    intro j hj
    obtain rfl : j = 0 := by omega
    exact (fun _ _ _ => by intro h; cases h)
  | succ k ih =>
    intro j hj
    by_cases h : j ≤ k
    · exact ih j h
    · obtain rfl : j = k + 1 := by omega
      exact s_print_Joined_string k ih
theorem ok_print_Joined_string (k : Nat) : Z68 (Z8x k) := (Zfc k k (Nat.le_refl _))

def C_print_Line (φ : ByteArray → Option ByteArray) : Prop := ∀ ⦃x1 : ByteArray⦄ ⦃r : ByteArray⦄, φ x1 = some r → ∀ ⦃w0 : World⦄ ⦃h0 : Hp⦄, Sub h0 w0 →
  Calls Tryz.prog 22 #[.string x1] w0 fun e w1 => ∃ v, e = .returned v ∧ ∃ h1, Stp [] w0 h0 w1 h1 ∧ v = .string r
theorem s_print_Line (k : Nat) : C_print_Line (Z7x k) := by
 intro x1 r HF w0 h0  hs0 
 have S0 : Stp [] w0 h0 w0 h0 := Stp.refl hs0 _
 refine Z66 (n := 7) Tryz.func22 rfl Tryz.ntmps22 rfl [(0, .string x1)] rfl <| Za <| Z0 <| Wa rfl rfl <| Z7 <| Z5 <| Za <| Z0 <| Wm rfl rfl ?_
 obtain ⟨r2, hr3, HF⟩ := Z6 HF
 refine Wc rfl (Zi (vs := [.string x1, .string b'45]) rfl t_ent_49) (ok_strings_TrimSuffix _ hr3 S0.sub) ?_
 rintro _ w5 ⟨h6, s7, rfl⟩
 have S8 := S0.trans0 s7
 obtain ⟨r9, hr10, HF⟩ := Z6 HF
 refine Wc rfl (Zi (vs := [.string r2, .string b'45]) rfl t_ent_48) (ok_strings_Split _ hr10 S8.sub) ?_
 rintro v15 w12 ⟨h13, s14, rs16⟩
 have S17 := S8.trans0 s14
 obtain ⟨r18, hr19, HF⟩ := Z6 HF
 refine Wc rfl (Zi (vs := [v15, .string b'98, .func (.func 50) #[] #[]]) rfl t_ent_47) (ok_print_Joined_string _ hr19 S17.sub rs16) ?_
 rintro _ w21 ⟨h22, s23, rfl⟩
 have S24 := S17.trans0 s23
 refine Wa rfl rfl <| Z7 <| Z5 <| Z09 <| Zt rfl rfl ?_
 obtain rfl := Option.some.inj HF
 exact ⟨_, rfl, h22, S24, rfl⟩
theorem ok_print_Line (k : Nat) : C_print_Line (Z7x k) := s_print_Line k

def C_ast_within (φ : Int → Int → Int → Option Bool) : Prop := ∀ ⦃x1 : Int⦄ ⦃x2 : Int⦄ ⦃x3 : Int⦄ ⦃r : Bool⦄, φ x1 x2 x3 = some r → ∀ ⦃w0 : World⦄ ⦃h0 : Hp⦄, Sub h0 w0 →
  Calls Tryz.prog 62 #[.int .i64 x1, .int .i64 x2, .int .i64 x3] w0 fun e w1 => ∃ v, e = .returned v ∧ ∃ h1, Stp [] w0 h0 w1 h1 ∧ v = .bool r
theorem s_ast_within (k : Nat) : C_ast_within (Z64 k) := by
 intro x1 x2 x3 r HF w0 h0  hs0 
 have S0 : Stp [] w0 h0 w0 h0 := Stp.refl hs0 _
 refine Z66 (n := 15) Tryz.func62 rfl Tryz.ntmps62 rfl [(0, vi x1), (1, vi x2), (2, vi x3)] rfl <| Za <| Z0 <| Wa rfl rfl <| Z7 <| Z5 <| Za <| Z0 <| Wm rfl rfl <| Wm rfl rfl <| Wv rfl (ov_geq rfl rfl) <| Wm rfl rfl <| Z2m 10 HF rfl (fun HF => ?_) (fun HF => ?_)
 ·refine Wm rfl rfl <| Wm rfl rfl <| Wv rfl (Zdo rfl rfl) <| Wv rfl (Zh rfl rfl) <| Wa rfl rfl <| Z7 <| Z5 <| Z09 <| Zt rfl rfl ?_
  obtain rfl := Option.some.inj HF
  exact ⟨_, rfl, h0, S0, rfl⟩
 refine Wp rfl <| Wp rfl <| Wp rfl <| Wv rfl (Zf rfl rfl) <| Wa rfl rfl <| Z7 <| Z5 <| Z09 <| Zt rfl rfl ?_
 obtain rfl := Option.some.inj HF
 exact ⟨_, rfl, h0, S0, rfl⟩
theorem Zbu (k : Nat) : C_ast_within (Z64 k) := s_ast_within k

def Zf8 (φ : Int → Int → Int → Option (Bool × Int × Int)) : Prop := ∀ ⦃x3 : Int⦄ ⦃x4 : Int⦄ ⦃x6 : Int⦄ ⦃r : Bool × Int × Int⦄, φ x3 x4 x6 = some r → ∀ ⦃w0 : World⦄ ⦃h0 : Hp⦄ ⦃b1 : Nat⦄ ⦃T2 : Nat⦄, Sub h0 w0 → OB w0 h0 b1 T2 [.int .i64 x3, .int .i64 x4] →
  Calls Tryz.prog 79 #[.pointer (some ⟨b1, 0, none⟩), .int .i64 x6] w0 fun e w1 => ∃ v, e = .returned v ∧ ∃ h1, Stp [b1] w0 h0 w1 h1 ∧ v = .bool r.1 ∧ (OB w1 h1 b1 T2 [.int .i64 r.2.1, .int .i64 r.2.2])
theorem s_ast_Counter_Add (k : Nat) : Zf8 (Z4x k) := by
 intro x3 x4 x6 r HF w0 h0 b1 T2 hs0 ob5
 have S0 : Stp [b1] w0 h0 w0 h0 := Stp.refl hs0 _
 have lt7 : b1 < w0.heap.size := OB.lt ob5
 refine Z66 (n := 30) Tryz.func79 rfl Tryz.ntmps79 rfl [(0, pt b1 0), (1, vi x6)] rfl <| Za <| Z0 <| Wa rfl rfl <| Z7 <| Z5 <| Za <| Z0 <| Wm rfl rfl <| Wv rfl (Z02 rfl) <| Wv rfl (Z2 rfl t_field_75_0) <| Wv rfl (Z8 rfl Z0t (OB.cell ob5 (j := 0) rfl)) <| Wv rfl (Z2v rfl rfl) <| Wv rfl (Z02 rfl) <| Wv rfl (Z2 rfl t_field_75_0) <| Z5i (vs := [vi (IntKind.i64.wrap (x3 + 1))]) rfl rfl rfl rfl Zeb (Z0d rfl Z76) ob5 S0.sub (by simp) (ds := [vi (IntKind.i64.wrap (x3 + 1)), vi x4]) rfl (fun w8 s9 ob10 => ?_)
 have S11 := S0.trans1 s9 (.inl (by simp))
 refine Z7 <| Z5 <| Za <| Z0 <| Wm rfl rfl <| Wm rfl rfl <| Wv rfl (Z02 rfl) <| Wv rfl (Z2 rfl t_field_75_1) <| Wv rfl (Z8 rfl Z0t (OB.cell ob10 (j := 1) rfl)) <| Wm rfl rfl <| Wv rfl (ov_max rfl rfl) <| Wv rfl (Z02 rfl) <| Wv rfl (Z2 rfl t_field_75_1) <| Z5i (vs := [vi (imax x4 x6)]) rfl rfl rfl rfl Zeb (Z0d rfl Z76) ob10 S11.sub (by simp) (ds := [vi (IntKind.i64.wrap (x3 + 1)), vi (imax x4 x6)]) rfl (fun w12 s13 ob14 => ?_)
 have S15 := S11.trans1 s13 (.inl (by simp))
 refine Z7 <| Z5 <| Za <| Z0 <| Wm rfl rfl <| Wv rfl (Z02 rfl) <| Wv rfl (Z2 rfl t_field_75_0) <| Wv rfl (Z8 rfl Z0t (OB.cell ob14 (j := 0) rfl)) <| Wv rfl (Zdo rfl rfl) <| Wm rfl rfl <| Z2m 26 HF rfl (fun HF => ?_) (fun HF => ?_)
 ·refine Wm rfl rfl <| Wv rfl (Zdo rfl rfl) <| Wv rfl (Zh rfl rfl) <| Wa rfl rfl <| Z7 <| Z5 <| Z09 <| Zt rfl rfl ?_
  obtain rfl := Option.some.inj HF
  exact ⟨_, rfl, h0, S15, rfl, ob14⟩
 refine Wp rfl <| Wp rfl <| Wv rfl (Zf rfl rfl) <| Wa rfl rfl <| Z7 <| Z5 <| Z09 <| Zt rfl rfl ?_
 obtain rfl := Option.some.inj HF
 exact ⟨_, rfl, h0, S15, rfl, ob14⟩
theorem Zaz (k : Nat) : Zf8 (Z4x k) := s_ast_Counter_Add k

def C_ast_IsLabel (φ : Int → Option Bool) : Prop := ∀ ⦃x1 : Int⦄ ⦃r : Bool⦄, φ x1 = some r → ∀ ⦃w0 : World⦄ ⦃h0 : Hp⦄, Sub h0 w0 →
  Calls Tryz.prog 34 #[.int .i64 x1] w0 fun e w1 => ∃ v, e = .returned v ∧ ∃ h1, Stp [] w0 h0 w1 h1 ∧ v = .bool r
theorem s_ast_IsLabel (k : Nat) : C_ast_IsLabel (Z5y k) := by
 intro x1 r HF w0 h0  hs0 
 have S0 : Stp [] w0 h0 w0 h0 := Stp.refl hs0 _
 refine Z66 (n := 5) Tryz.func34 rfl Tryz.ntmps34 rfl [(0, vi x1)] rfl <| Za <| Z0 <| Wa rfl rfl <| Z7 <| Z5 <| Za <| Z0 <| Wm rfl rfl ?_
 obtain ⟨r2, hr3, HF⟩ := Z6 HF
 refine Wc rfl (Zi (vs := [vi x1, vi (-2147483647), vi 2147483647]) rfl t_ent_62) (Zbu _ hr3 S0.sub) ?_
 rintro _ w5 ⟨h6, s7, rfl⟩
 have S8 := S0.trans0 s7
 refine Wa rfl rfl <| Z7 <| Z5 <| Z09 <| Zt rfl rfl ?_
 obtain rfl := Option.some.inj HF
 exact ⟨_, rfl, h6, S8, rfl⟩
theorem Zc7 (k : Nat) : C_ast_IsLabel (Z5y k) := s_ast_IsLabel k

def C_lexis_IsWord (φ : ByteArray → Option Bool) : Prop := ∀ ⦃x1 : ByteArray⦄ ⦃r : Bool⦄, φ x1 = some r → ∀ ⦃w0 : World⦄ ⦃h0 : Hp⦄, Sub h0 w0 →
  Calls Tryz.prog 119 #[.string x1] w0 fun e w1 => ∃ v, e = .returned v ∧ ∃ h1, Stp [] w0 h0 w1 h1 ∧ v = .bool r
theorem s_lexis_IsWord (k : Nat) : C_lexis_IsWord (Za8 k) := by
 intro x1 r HF w0 h0  hs0 
 have S0 : Stp [] w0 h0 w0 h0 := Stp.refl hs0 _
 refine Z66 (n := 95) Tryz.func119 rfl Tryz.ntmps119 rfl [(0, .string x1)] rfl <| Za <| Z0 <| Wa rfl rfl <| Z7 <| Z5 <| Z04 (fun E w99 => ∃ (h98 : Hp), lexis_IsWord_j2 k  = some r ∧ E = [] ∧ Stp [] w0 h0 w99 h98 ∧ Hle h0 h98) ?_ ?_
 ·rintro E w99 ⟨h98, HF, rfl, S101, le100⟩
  refine Za <| Z0 <| Wa rfl rfl <| Z7 <| Z5 <| Z09 <| Zt rfl rfl ?_
  obtain rfl := Option.some.inj HF
  exact ⟨_, rfl, h98, S101, rfl⟩
 intro J102
 refine Za <| Z0 <| Wm rfl rfl <| Z7 <| Z5 <| Z0c <| Z04 (fun E w92 => ∃ (h91 : Hp) (x95 : Bool), Zd k x95 = some r ∧ E = [(4, .bool x95)] ∧ Stp [] w0 h0 w92 h91 ∧ Hle h0 h91) ?_ ?_
 ·rintro E w92 ⟨h91, x95, HF, rfl, S94, le93⟩
  refine Z12 HF rfl (fun HF => ?_) (fun HF => ?_)
  ·refine Za <| Z0 <| Wa rfl rfl <| Z7 <| Z5 <| Z09 <| Z03 <| Zp <| Zt rfl rfl ?_
   obtain rfl := Option.some.inj HF
   exact ⟨_, rfl, h91, S94, rfl⟩
  refine Zm <| Zv <| Z06 [] _ rfl ?_
  exact J102 ⟨h91, HF, rfl, S94, le93⟩
 intro J97
 refine Za <| Z0 <| Wv rfl (Z0g rfl rfl) <| Wa rfl rfl <| Z7 <| Z5 <| Z12 HF rfl (fun HF => ?_) (fun HF => ?_)
 ·refine Zm <| Z06 [4] _ rfl ?_
  exact J97 ⟨h0, bEq x1 b'117, HF, rfl, S0, Hle.refl _⟩
 refine Za <| Z0 <| Wv rfl (Z0g rfl rfl) <| Wa rfl rfl <| Z7 <| Z5 <| Z12 HF rfl (fun HF => ?_) (fun HF => ?_)
 ·refine Zm <| Z06 [4] _ rfl ?_
  exact J97 ⟨h0, bEq x1 b'119, HF, rfl, S0, Hle.refl _⟩
 refine Za <| Z0 <| Wv rfl (Z0g rfl rfl) <| Wa rfl rfl <| Z7 <| Z5 <| Z12 HF rfl (fun HF => ?_) (fun HF => ?_)
 ·refine Zm <| Z06 [4] _ rfl ?_
  exact J97 ⟨h0, bEq x1 b'118, HF, rfl, S0, Hle.refl _⟩
 refine Za <| Z0 <| Wv rfl (Z0g rfl rfl) <| Wa rfl rfl <| Z7 <| Z5 <| Z12 HF rfl (fun HF => ?_) (fun HF => ?_)
 ·refine Zm <| Z06 [4] _ rfl ?_
  exact J97 ⟨h0, bEq x1 b'120, HF, rfl, S0, Hle.refl _⟩
 refine Za <| Z0 <| Wv rfl (Z0g rfl rfl) <| Wa rfl rfl <| Z7 <| Z5 <| Z12 HF rfl (fun HF => ?_) (fun HF => ?_)
 ·refine Zm <| Z06 [4] _ rfl ?_
  exact J97 ⟨h0, bEq x1 b'121, HF, rfl, S0, Hle.refl _⟩
 refine Za <| Z0 <| Wv rfl (Z0g rfl rfl) <| Wa rfl rfl <| Z7 <| Z5 <| Z12 HF rfl (fun HF => ?_) (fun HF => ?_)
 ·refine Zm <| Z06 [4] _ rfl ?_
  exact J97 ⟨h0, bEq x1 b'122, HF, rfl, S0, Hle.refl _⟩
 refine Za <| Z0 <| Wv rfl (Z0g rfl rfl) <| Wa rfl rfl <| Z7 <| Z5 <| Z12 HF rfl (fun HF => ?_) (fun HF => ?_)
 ·refine Zm <| Z06 [4] _ rfl ?_
  exact J97 ⟨h0, bEq x1 b'123, HF, rfl, S0, Hle.refl _⟩
 refine Za <| Z0 <| Wv rfl (Z0g rfl rfl) <| Wa rfl rfl <| Z7 <| Z5 <| Z12 HF rfl (fun HF => ?_) (fun HF => ?_)
 ·refine Zm <| Z06 [4] _ rfl ?_
  exact J97 ⟨h0, bEq x1 b'124, HF, rfl, S0, Hle.refl _⟩
 refine Za <| Z0 <| Wv rfl (Z0g rfl rfl) <| Wa rfl rfl <| Z7 <| Z5 <| Z12 HF rfl (fun HF => ?_) (fun HF => ?_)
 ·refine Zm <| Z06 [4] _ rfl ?_
  exact J97 ⟨h0, bEq x1 b'127, HF, rfl, S0, Hle.refl _⟩
 refine Za <| Z0 <| Wv rfl (Z0g rfl rfl) <| Wa rfl rfl <| Z7 <| Z5 <| Z12 HF rfl (fun HF => ?_) (fun HF => ?_)
 ·refine Zm <| Z06 [4] _ rfl ?_
  exact J97 ⟨h0, bEq x1 b'126, HF, rfl, S0, Hle.refl _⟩
 refine Za <| Z0 <| Wv rfl (Z0g rfl rfl) <| Wa rfl rfl <| Z7 <| Z5 <| Z12 HF rfl (fun HF => ?_) (fun HF => ?_)
 ·refine Zm <| Z06 [4] _ rfl ?_
  exact J97 ⟨h0, bEq x1 b'125, HF, rfl, S0, Hle.refl _⟩
 refine Za <| Z0 <| Wv rfl (Z0g rfl rfl) <| Wa rfl rfl <| Z7 <| Z5 <| Z12 HF rfl (fun HF => ?_) (fun HF => ?_)
 ·refine Zm <| Z06 [4] _ rfl ?_
  exact J97 ⟨h0, bEq x1 b'129, HF, rfl, S0, Hle.refl _⟩
 refine Za <| Z0 <| Wv rfl (Z0g rfl rfl) <| Wa rfl rfl <| Z7 <| Z5 <| Z12 HF rfl (fun HF => ?_) (fun HF => ?_)
 ·refine Zm <| Z06 [4] _ rfl ?_
  exact J97 ⟨h0, bEq x1 b'0, HF, rfl, S0, Hle.refl _⟩
 refine Za <| Z0 <| Wv rfl (Z0g rfl rfl) <| Wa rfl rfl <| Z7 <| Z5 <| Z12 HF rfl (fun HF => ?_) (fun HF => ?_)
 ·refine Zm <| Z06 [4] _ rfl ?_
  exact J97 ⟨h0, bEq x1 b'1, HF, rfl, S0, Hle.refl _⟩
 refine Za <| Z0 <| Wv rfl (Z0g rfl rfl) <| Wa rfl rfl <| Z7 <| Z5 <| Z12 HF rfl (fun HF => ?_) (fun HF => ?_)
 ·refine Zm <| Z06 [4] _ rfl ?_
  exact J97 ⟨h0, bEq x1 b'2, HF, rfl, S0, Hle.refl _⟩
 refine Za <| Z0 <| Wv rfl (Z0g rfl rfl) <| Wa rfl rfl <| Z7 <| Z5 <| Z12 HF rfl (fun HF => ?_) (fun HF => ?_)
 ·refine Zm <| Z06 [4] _ rfl ?_
  exact J97 ⟨h0, bEq x1 b'3, HF, rfl, S0, Hle.refl _⟩
 refine Za <| Z0 <| Wv rfl (Z0g rfl rfl) <| Wa rfl rfl <| Z7 <| Z5 <| Z12 HF rfl (fun HF => ?_) (fun HF => ?_)
 ·refine Zm <| Z06 [4] _ rfl ?_
  exact J97 ⟨h0, bEq x1 b'5, HF, rfl, S0, Hle.refl _⟩
 refine Za <| Z0 <| Wv rfl (Z0g rfl rfl) <| Wa rfl rfl <| Z7 <| Z5 <| Z12 HF rfl (fun HF => ?_) (fun HF => ?_)
 ·refine Zm <| Z06 [4] _ rfl ?_
  exact J97 ⟨h0, bEq x1 b'11, HF, rfl, S0, Hle.refl _⟩
 refine Za <| Z0 <| Wv rfl (Z0g rfl rfl) <| Wa rfl rfl <| Z7 <| Z5 <| Z12 HF rfl (fun HF => ?_) (fun HF => ?_)
 ·refine Zm <| Z06 [4] _ rfl ?_
  exact J97 ⟨h0, bEq x1 b'10, HF, rfl, S0, Hle.refl _⟩
 refine Za <| Z0 <| Wv rfl (Z0g rfl rfl) <| Wa rfl rfl <| Z7 <| Z5 <| Z12 HF rfl (fun HF => ?_) (fun HF => ?_)
 ·refine Zm <| Z06 [4] _ rfl ?_
  exact J97 ⟨h0, bEq x1 b'6, HF, rfl, S0, Hle.refl _⟩
 refine Za <| Z0 <| Wv rfl (Z0g rfl rfl) <| Wa rfl rfl <| Z7 <| Z5 <| Z12 HF rfl (fun HF => ?_) (fun HF => ?_)
 ·refine Zm <| Z06 [4] _ rfl ?_
  exact J97 ⟨h0, bEq x1 b'7, HF, rfl, S0, Hle.refl _⟩
 refine Za <| Z0 <| Wv rfl (Z0g rfl rfl) <| Wa rfl rfl <| Z7 <| Z5 <| Z12 HF rfl (fun HF => ?_) (fun HF => ?_)
 ·refine Zm <| Z06 [4] _ rfl ?_
  exact J97 ⟨h0, bEq x1 b'8, HF, rfl, S0, Hle.refl _⟩
 refine Za <| Z0 <| Wv rfl (Z0g rfl rfl) <| Wa rfl rfl <| Z7 <| Z5 <| Z12 HF rfl (fun HF => ?_) (fun HF => ?_)
 ·refine Zm <| Z06 [4] _ rfl ?_
  exact J97 ⟨h0, bEq x1 b'9, HF, rfl, S0, Hle.refl _⟩
 refine Za <| Z0 <| Wv rfl (Z0g rfl rfl) <| Wa rfl rfl <| Z7 <| Z5 <| Z12 HF rfl (fun HF => ?_) (fun HF => ?_)
 ·refine Zm <| Z06 [4] _ rfl ?_
  exact J97 ⟨h0, bEq x1 b'12, HF, rfl, S0, Hle.refl _⟩
 refine Za <| Z0 <| Wv rfl (Z0g rfl rfl) <| Wa rfl rfl <| Z7 <| Z5 <| Z12 HF rfl (fun HF => ?_) (fun HF => ?_)
 ·refine Zm <| Z06 [4] _ rfl ?_
  exact J97 ⟨h0, bEq x1 b'13, HF, rfl, S0, Hle.refl _⟩
 refine Za <| Z0 <| Wv rfl (Z0g rfl rfl) <| Wa rfl rfl <| Z7 <| Z5 <| Z12 HF rfl (fun HF => ?_) (fun HF => ?_)
 ·refine Zm <| Z06 [4] _ rfl ?_
  exact J97 ⟨h0, bEq x1 b'14, HF, rfl, S0, Hle.refl _⟩
 refine Za <| Z0 <| Wv rfl (Z0g rfl rfl) <| Wa rfl rfl <| Z7 <| Z5 <| Z12 HF rfl (fun HF => ?_) (fun HF => ?_)
 ·refine Zm <| Z06 [4] _ rfl ?_
  exact J97 ⟨h0, bEq x1 b'15, HF, rfl, S0, Hle.refl _⟩
 refine Za <| Z0 <| Wv rfl (Z0g rfl rfl) <| Wa rfl rfl <| Z7 <| Z5 <| Z12 HF rfl (fun HF => ?_) (fun HF => ?_)
 ·refine Zm <| Z06 [4] _ rfl ?_
  exact J97 ⟨h0, bEq x1 b'20, HF, rfl, S0, Hle.refl _⟩
 refine Za <| Z0 <| Wv rfl (Z0g rfl rfl) <| Wa rfl rfl <| Z7 <| Z5 <| Z12 HF rfl (fun HF => ?_) (fun HF => ?_)
 ·refine Zm <| Z06 [4] _ rfl ?_
  exact J97 ⟨h0, bEq x1 b'21, HF, rfl, S0, Hle.refl _⟩
 refine Za <| Z0 <| Wv rfl (Z0g rfl rfl) <| Wa rfl rfl <| Z7 <| Z5 <| Z12 HF rfl (fun HF => ?_) (fun HF => ?_)
 ·refine Zm <| Z06 [4] _ rfl ?_
  exact J97 ⟨h0, bEq x1 b'22, HF, rfl, S0, Hle.refl _⟩
 refine Za <| Z0 <| Wv rfl (Z0g rfl rfl) <| Wa rfl rfl <| Z7 <| Z5 <| Z12 HF rfl (fun HF => ?_) (fun HF => ?_)
 ·refine Zm <| Z06 [4] _ rfl ?_
  exact J97 ⟨h0, bEq x1 b'17, HF, rfl, S0, Hle.refl _⟩
 refine Za <| Z0 <| Wv rfl (Z0g rfl rfl) <| Wa rfl rfl <| Z7 <| Z5 <| Z12 HF rfl (fun HF => ?_) (fun HF => ?_)
 ·refine Zm <| Z06 [4] _ rfl ?_
  exact J97 ⟨h0, bEq x1 b'18, HF, rfl, S0, Hle.refl _⟩
 refine Za <| Z0 <| Wv rfl (Z0g rfl rfl) <| Wa rfl rfl <| Z7 <| Z5 <| Z12 HF rfl (fun HF => ?_) (fun HF => ?_)
 ·refine Zm <| Z06 [4] _ rfl ?_
  exact J97 ⟨h0, bEq x1 b'19, HF, rfl, S0, Hle.refl _⟩
 refine Za <| Z0 <| Wv rfl (Z0g rfl rfl) <| Wa rfl rfl <| Z7 <| Z5 <| Z12 HF rfl (fun HF => ?_) (fun HF => ?_)
 ·refine Zm <| Z06 [4] _ rfl ?_
  exact J97 ⟨h0, bEq x1 b'23, HF, rfl, S0, Hle.refl _⟩
 refine Za <| Z0 <| Wv rfl (Z0g rfl rfl) <| Wa rfl rfl <| Z7 <| Z5 <| Z12 HF rfl (fun HF => ?_) (fun HF => ?_)
 ·refine Zm <| Z06 [4] _ rfl ?_
  exact J97 ⟨h0, bEq x1 b'24, HF, rfl, S0, Hle.refl _⟩
 refine Za <| Z0 <| Wv rfl (Z0g rfl rfl) <| Wa rfl rfl <| Z7 <| Z5 <| Z12 HF rfl (fun HF => ?_) (fun HF => ?_)
 ·refine Zm <| Z06 [4] _ rfl ?_
  exact J97 ⟨h0, bEq x1 b'26, HF, rfl, S0, Hle.refl _⟩
 refine Za <| Z0 <| Wv rfl (Z0g rfl rfl) <| Wa rfl rfl <| Z7 <| Z5 <| Z12 HF rfl (fun HF => ?_) (fun HF => ?_)
 ·refine Zm <| Z06 [4] _ rfl ?_
  exact J97 ⟨h0, bEq x1 b'27, HF, rfl, S0, Hle.refl _⟩
 refine Za <| Z0 <| Wv rfl (Z0g rfl rfl) <| Wa rfl rfl <| Z7 <| Z5 <| Z12 HF rfl (fun HF => ?_) (fun HF => ?_)
 ·refine Zm <| Z06 [4] _ rfl ?_
  exact J97 ⟨h0, bEq x1 b'28, HF, rfl, S0, Hle.refl _⟩
 refine Za <| Z0 <| Wv rfl (Z0g rfl rfl) <| Wa rfl rfl <| Z7 <| Z5 <| Z12 HF rfl (fun HF => ?_) (fun HF => ?_)
 ·refine Zm <| Z06 [4] _ rfl ?_
  exact J97 ⟨h0, bEq x1 b'29, HF, rfl, S0, Hle.refl _⟩
 refine Za <| Z0 <| Wv rfl (Z0g rfl rfl) <| Wa rfl rfl <| Z7 <| Z5 <| Z12 HF rfl (fun HF => ?_) (fun HF => ?_)
 ·refine Zm <| Z06 [4] _ rfl ?_
  exact J97 ⟨h0, bEq x1 b'30, HF, rfl, S0, Hle.refl _⟩
 refine Za <| Z0 <| Wv rfl (Z0g rfl rfl) <| Wa rfl rfl <| Z7 <| Z5 <| Z12 HF rfl (fun HF => ?_) (fun HF => ?_)
 ·refine Zm <| Z06 [4] _ rfl ?_
  exact J97 ⟨h0, bEq x1 b'33, HF, rfl, S0, Hle.refl _⟩
 refine Za <| Z0 <| Wv rfl (Z0g rfl rfl) <| Wa rfl rfl <| Z7 <| Z5 <| Z12 HF rfl (fun HF => ?_) (fun HF => ?_)
 ·refine Zm <| Z06 [4] _ rfl ?_
  exact J97 ⟨h0, bEq x1 b'32, HF, rfl, S0, Hle.refl _⟩
 refine Za <| Z0 <| Wv rfl (Z0g rfl rfl) <| Wa rfl rfl <| Z7 <| Z5 <| Z12 HF rfl (fun HF => ?_) (fun HF => ?_)
 ·refine Zm <| Z06 [4] _ rfl ?_
  exact J97 ⟨h0, bEq x1 b'31, HF, rfl, S0, Hle.refl _⟩
 refine Za <| Z0 <| Wv rfl (Z0g rfl rfl) <| Wa rfl rfl <| Z7 <| Z5 <| Z12 HF rfl (fun HF => ?_) (fun HF => ?_)
 ·refine Zm <| Z06 [4] _ rfl ?_
  exact J97 ⟨h0, bEq x1 b'34, HF, rfl, S0, Hle.refl _⟩
 refine Za <| Z0 <| Wv rfl (Z0g rfl rfl) <| Wa rfl rfl <| Z7 <| Z5 <| Z12 HF rfl (fun HF => ?_) (fun HF => ?_)
 ·refine Zm <| Z06 [4] _ rfl ?_
  exact J97 ⟨h0, bEq x1 b'36, HF, rfl, S0, Hle.refl _⟩
 refine Za <| Z0 <| Wv rfl (Z0g rfl rfl) <| Wa rfl rfl <| Z7 <| Z5 <| Z12 HF rfl (fun HF => ?_) (fun HF => ?_)
 ·refine Zm <| Z06 [4] _ rfl ?_
  exact J97 ⟨h0, bEq x1 b'35, HF, rfl, S0, Hle.refl _⟩
 refine Za <| Z0 <| Wv rfl (Z0g rfl rfl) <| Wa rfl rfl <| Z7 <| Z5 <| Z12 HF rfl (fun HF => ?_) (fun HF => ?_)
 ·refine Zm <| Z06 [4] _ rfl ?_
  exact J97 ⟨h0, bEq x1 b'38, HF, rfl, S0, Hle.refl _⟩
 refine Za <| Z0 <| Wv rfl (Z0g rfl rfl) <| Wa rfl rfl <| Z7 <| Z5 <| Z12 HF rfl (fun HF => ?_) (fun HF => ?_)
 ·refine Zm <| Z06 [4] _ rfl ?_
  exact J97 ⟨h0, bEq x1 b'37, HF, rfl, S0, Hle.refl _⟩
 refine Za <| Z0 <| Wv rfl (Z0g rfl rfl) <| Wa rfl rfl <| Z7 <| Z5 <| Z12 HF rfl (fun HF => ?_) (fun HF => ?_)
 ·refine Zm <| Z06 [4] _ rfl ?_
  exact J97 ⟨h0, bEq x1 b'39, HF, rfl, S0, Hle.refl _⟩
 refine Za <| Z0 <| Wv rfl (Z0g rfl rfl) <| Wa rfl rfl <| Z7 <| Z5 <| Z12 HF rfl (fun HF => ?_) (fun HF => ?_)
 ·refine Zm <| Z06 [4] _ rfl ?_
  exact J97 ⟨h0, bEq x1 b'40, HF, rfl, S0, Hle.refl _⟩
 refine Za <| Z0 <| Wv rfl (Z0g rfl rfl) <| Wa rfl rfl <| Z7 <| Z5 <| Z12 HF rfl (fun HF => ?_) (fun HF => ?_)
 ·refine Zm <| Z06 [4] _ rfl ?_
  exact J97 ⟨h0, bEq x1 b'41, HF, rfl, S0, Hle.refl _⟩
 refine Za <| Z0 <| Wv rfl (Z0g rfl rfl) <| Wa rfl rfl <| Z7 <| Z5 <| Z12 HF rfl (fun HF => ?_) (fun HF => ?_)
 ·refine Zm <| Z06 [4] _ rfl ?_
  exact J97 ⟨h0, bEq x1 b'44, HF, rfl, S0, Hle.refl _⟩
 refine Za <| Z0 <| Wv rfl (Z0g rfl rfl) <| Wa rfl rfl <| Z7 <| Z5 <| Z12 HF rfl (fun HF => ?_) (fun HF => ?_)
 ·refine Zm <| Z06 [4] _ rfl ?_
  exact J97 ⟨h0, bEq x1 b'42, HF, rfl, S0, Hle.refl _⟩
 refine Za <| Z0 <| Wv rfl (Z0g rfl rfl) <| Wa rfl rfl <| Z7 <| Z5 <| Z12 HF rfl (fun HF => ?_) (fun HF => ?_)
 ·refine Zm <| Z06 [4] _ rfl ?_
  exact J97 ⟨h0, bEq x1 b'43, HF, rfl, S0, Hle.refl _⟩
 refine Za <| Z0 <| Wv rfl (Z0g rfl rfl) <| Wa rfl rfl <| Z7 <| Z5 <| Z12 HF rfl (fun HF => ?_) (fun HF => ?_)
 ·refine Zm <| Z06 [4] _ rfl ?_
  exact J97 ⟨h0, bEq x1 b'46, HF, rfl, S0, Hle.refl _⟩
 refine Za <| Z0 <| Wv rfl (Z0g rfl rfl) <| Wa rfl rfl <| Z7 <| Z5 <| Z12 HF rfl (fun HF => ?_) (fun HF => ?_)
 ·refine Zm <| Z06 [4] _ rfl ?_
  exact J97 ⟨h0, bEq x1 b'48, HF, rfl, S0, Hle.refl _⟩
 refine Za <| Z0 <| Wv rfl (Z0g rfl rfl) <| Wa rfl rfl <| Z7 <| Z5 <| Z12 HF rfl (fun HF => ?_) (fun HF => ?_)
 ·refine Zm <| Z06 [4] _ rfl ?_
  exact J97 ⟨h0, bEq x1 b'49, HF, rfl, S0, Hle.refl _⟩
 refine Za <| Z0 <| Wv rfl (Z0g rfl rfl) <| Wa rfl rfl <| Z7 <| Z5 <| Z12 HF rfl (fun HF => ?_) (fun HF => ?_)
 ·refine Zm <| Z06 [4] _ rfl ?_
  exact J97 ⟨h0, bEq x1 b'51, HF, rfl, S0, Hle.refl _⟩
 refine Za <| Z0 <| Wv rfl (Z0g rfl rfl) <| Wa rfl rfl <| Z7 <| Z5 <| Z12 HF rfl (fun HF => ?_) (fun HF => ?_)
 ·refine Zm <| Z06 [4] _ rfl ?_
  exact J97 ⟨h0, bEq x1 b'50, HF, rfl, S0, Hle.refl _⟩
 refine Za <| Z0 <| Wv rfl (Z0g rfl rfl) <| Wa rfl rfl <| Z7 <| Z5 <| Z12 HF rfl (fun HF => ?_) (fun HF => ?_)
 ·refine Zm <| Z06 [4] _ rfl ?_
  exact J97 ⟨h0, bEq x1 b'52, HF, rfl, S0, Hle.refl _⟩
 refine Za <| Z0 <| Wv rfl (Z0g rfl rfl) <| Wa rfl rfl <| Z7 <| Z5 <| Z12 HF rfl (fun HF => ?_) (fun HF => ?_)
 ·refine Zm <| Z06 [4] _ rfl ?_
  exact J97 ⟨h0, bEq x1 b'53, HF, rfl, S0, Hle.refl _⟩
 refine Za <| Z0 <| Wv rfl (Z0g rfl rfl) <| Wa rfl rfl <| Z7 <| Z5 <| Z12 HF rfl (fun HF => ?_) (fun HF => ?_)
 ·refine Zm <| Z06 [4] _ rfl ?_
  exact J97 ⟨h0, bEq x1 b'54, HF, rfl, S0, Hle.refl _⟩
 refine Za <| Z0 <| Wv rfl (Z0g rfl rfl) <| Wa rfl rfl <| Z7 <| Z5 <| Z12 HF rfl (fun HF => ?_) (fun HF => ?_)
 ·refine Zm <| Z06 [4] _ rfl ?_
  exact J97 ⟨h0, bEq x1 b'55, HF, rfl, S0, Hle.refl _⟩
 refine Za <| Z0 <| Wv rfl (Z0g rfl rfl) <| Wa rfl rfl <| Z7 <| Z5 <| Z12 HF rfl (fun HF => ?_) (fun HF => ?_)
 ·refine Zm <| Z06 [4] _ rfl ?_
  exact J97 ⟨h0, bEq x1 b'57, HF, rfl, S0, Hle.refl _⟩
 refine Za <| Z0 <| Wv rfl (Z0g rfl rfl) <| Wa rfl rfl <| Z7 <| Z5 <| Z12 HF rfl (fun HF => ?_) (fun HF => ?_)
 ·refine Zm <| Z06 [4] _ rfl ?_
  exact J97 ⟨h0, bEq x1 b'58, HF, rfl, S0, Hle.refl _⟩
 refine Za <| Z0 <| Wv rfl (Z0g rfl rfl) <| Wa rfl rfl <| Z7 <| Z5 <| Z12 HF rfl (fun HF => ?_) (fun HF => ?_)
 ·refine Zm <| Z06 [4] _ rfl ?_
  exact J97 ⟨h0, bEq x1 b'63, HF, rfl, S0, Hle.refl _⟩
 refine Za <| Z0 <| Wv rfl (Z0g rfl rfl) <| Wa rfl rfl <| Z7 <| Z5 <| Z12 HF rfl (fun HF => ?_) (fun HF => ?_)
 ·refine Zm <| Z06 [4] _ rfl ?_
  exact J97 ⟨h0, bEq x1 b'60, HF, rfl, S0, Hle.refl _⟩
 refine Za <| Z0 <| Wv rfl (Z0g rfl rfl) <| Wa rfl rfl <| Z7 <| Z5 <| Z12 HF rfl (fun HF => ?_) (fun HF => ?_)
 ·refine Zm <| Z06 [4] _ rfl ?_
  exact J97 ⟨h0, bEq x1 b'62, HF, rfl, S0, Hle.refl _⟩
 refine Za <| Z0 <| Wv rfl (Z0g rfl rfl) <| Wa rfl rfl <| Z7 <| Z5 <| Z12 HF rfl (fun HF => ?_) (fun HF => ?_)
 ·refine Zm <| Z06 [4] _ rfl ?_
  exact J97 ⟨h0, bEq x1 b'61, HF, rfl, S0, Hle.refl _⟩
 refine Za <| Z0 <| Wv rfl (Z0g rfl rfl) <| Wa rfl rfl <| Z7 <| Z5 <| Z12 HF rfl (fun HF => ?_) (fun HF => ?_)
 ·refine Zm <| Z06 [4] _ rfl ?_
  exact J97 ⟨h0, bEq x1 b'59, HF, rfl, S0, Hle.refl _⟩
 refine Za <| Z0 <| Wv rfl (Z0g rfl rfl) <| Wa rfl rfl <| Z7 <| Z5 <| Z12 HF rfl (fun HF => ?_) (fun HF => ?_)
 ·refine Zm <| Z06 [4] _ rfl ?_
  exact J97 ⟨h0, bEq x1 b'64, HF, rfl, S0, Hle.refl _⟩
 refine Za <| Z0 <| Wv rfl (Z0g rfl rfl) <| Wa rfl rfl <| Z7 <| Z5 <| Z12 HF rfl (fun HF => ?_) (fun HF => ?_)
 ·refine Zm <| Z06 [4] _ rfl ?_
  exact J97 ⟨h0, bEq x1 b'66, HF, rfl, S0, Hle.refl _⟩
 refine Za <| Z0 <| Wv rfl (Z0g rfl rfl) <| Wa rfl rfl <| Z7 <| Z5 <| Z12 HF rfl (fun HF => ?_) (fun HF => ?_)
 ·refine Zm <| Z06 [4] _ rfl ?_
  exact J97 ⟨h0, bEq x1 b'65, HF, rfl, S0, Hle.refl _⟩
 refine Za <| Z0 <| Wv rfl (Z0g rfl rfl) <| Wa rfl rfl <| Z7 <| Z5 <| Z12 HF rfl (fun HF => ?_) (fun HF => ?_)
 ·refine Zm <| Z06 [4] _ rfl ?_
  exact J97 ⟨h0, bEq x1 b'67, HF, rfl, S0, Hle.refl _⟩
 refine Za <| Z0 <| Wv rfl (Z0g rfl rfl) <| Wa rfl rfl <| Z7 <| Z5 <| Z12 HF rfl (fun HF => ?_) (fun HF => ?_)
 ·refine Zm <| Z06 [4] _ rfl ?_
  exact J97 ⟨h0, bEq x1 b'68, HF, rfl, S0, Hle.refl _⟩
 refine Za <| Z0 <| Wv rfl (Z0g rfl rfl) <| Wa rfl rfl <| Z7 <| Z5 <| Z12 HF rfl (fun HF => ?_) (fun HF => ?_)
 ·refine Zm <| Z06 [4] _ rfl ?_
  exact J97 ⟨h0, bEq x1 b'71, HF, rfl, S0, Hle.refl _⟩
 refine Za <| Z0 <| Wv rfl (Z0g rfl rfl) <| Wa rfl rfl <| Z7 <| Z5 <| Z12 HF rfl (fun HF => ?_) (fun HF => ?_)
 ·refine Zm <| Z06 [4] _ rfl ?_
  exact J97 ⟨h0, bEq x1 b'69, HF, rfl, S0, Hle.refl _⟩
 refine Za <| Z0 <| Wv rfl (Z0g rfl rfl) <| Wa rfl rfl <| Z7 <| Z5 <| Z12 HF rfl (fun HF => ?_) (fun HF => ?_)
 ·refine Zm <| Z06 [4] _ rfl ?_
  exact J97 ⟨h0, bEq x1 b'70, HF, rfl, S0, Hle.refl _⟩
 refine Za <| Z0 <| Wv rfl (Z0g rfl rfl) <| Wa rfl rfl <| Z7 <| Z5 <| Z12 HF rfl (fun HF => ?_) (fun HF => ?_)
 ·refine Zm <| Z06 [4] _ rfl ?_
  exact J97 ⟨h0, bEq x1 b'72, HF, rfl, S0, Hle.refl _⟩
 refine Za <| Z0 <| Wv rfl (Z0g rfl rfl) <| Wa rfl rfl <| Z7 <| Z5 <| Z12 HF rfl (fun HF => ?_) (fun HF => ?_)
 ·refine Zm <| Z06 [4] _ rfl ?_
  exact J97 ⟨h0, bEq x1 b'78, HF, rfl, S0, Hle.refl _⟩
 refine Za <| Z0 <| Wv rfl (Z0g rfl rfl) <| Wa rfl rfl <| Z7 <| Z5 <| Z12 HF rfl (fun HF => ?_) (fun HF => ?_)
 ·refine Zm <| Z06 [4] _ rfl ?_
  exact J97 ⟨h0, bEq x1 b'73, HF, rfl, S0, Hle.refl _⟩
 refine Za <| Z0 <| Wv rfl (Z0g rfl rfl) <| Wa rfl rfl <| Z7 <| Z5 <| Z12 HF rfl (fun HF => ?_) (fun HF => ?_)
 ·refine Zm <| Z06 [4] _ rfl ?_
  exact J97 ⟨h0, bEq x1 b'74, HF, rfl, S0, Hle.refl _⟩
 refine Za <| Z0 <| Wv rfl (Z0g rfl rfl) <| Wa rfl rfl <| Z7 <| Z5 <| Z12 HF rfl (fun HF => ?_) (fun HF => ?_)
 ·refine Zm <| Z06 [4] _ rfl ?_
  exact J97 ⟨h0, bEq x1 b'75, HF, rfl, S0, Hle.refl _⟩
 refine Za <| Z0 <| Wv rfl (Z0g rfl rfl) <| Wa rfl rfl <| Z7 <| Z5 <| Z12 HF rfl (fun HF => ?_) (fun HF => ?_)
 ·refine Zm <| Z06 [4] _ rfl ?_
  exact J97 ⟨h0, bEq x1 b'77, HF, rfl, S0, Hle.refl _⟩
 refine Za <| Z0 <| Wv rfl (Z0g rfl rfl) <| Wa rfl rfl <| Z7 <| Z5 <| Z12 HF rfl (fun HF => ?_) (fun HF => ?_)
 ·refine Zm <| Z06 [4] _ rfl ?_
  exact J97 ⟨h0, bEq x1 b'76, HF, rfl, S0, Hle.refl _⟩
 refine Za <| Z0 <| Wv rfl (Z0g rfl rfl) <| Wa rfl rfl <| Z7 <| Z5 <| Z12 HF rfl (fun HF => ?_) (fun HF => ?_)
 ·refine Zm <| Z06 [4] _ rfl ?_
  exact J97 ⟨h0, bEq x1 b'80, HF, rfl, S0, Hle.refl _⟩
 refine Za <| Z0 <| Wv rfl (Z0g rfl rfl) <| Wa rfl rfl <| Z7 <| Z5 <| Z12 HF rfl (fun HF => ?_) (fun HF => ?_)
 ·refine Zm <| Z06 [4] _ rfl ?_
  exact J97 ⟨h0, bEq x1 b'81, HF, rfl, S0, Hle.refl _⟩
 refine Za <| Z0 <| Wv rfl (Z0g rfl rfl) <| Wa rfl rfl <| Z7 <| Z5 <| Z12 HF rfl (fun HF => ?_) (fun HF => ?_)
 ·refine Zm <| Z06 [4] _ rfl ?_
  exact J97 ⟨h0, bEq x1 b'83, HF, rfl, S0, Hle.refl _⟩
 refine Za <| Z0 <| Wv rfl (Z0g rfl rfl) <| Wa rfl rfl <| Z7 <| Z5 <| Z12 HF rfl (fun HF => ?_) (fun HF => ?_)
 ·refine Zm <| Z06 [4] _ rfl ?_
  exact J97 ⟨h0, bEq x1 b'85, HF, rfl, S0, Hle.refl _⟩
 refine Z0 <| Wv rfl (Z0g rfl rfl) <| Wa rfl rfl <| Z7 <| Z06 [4] _ rfl ?_
 exact J97 ⟨h0, bEq x1 b'84, HF, rfl, S0, Hle.refl _⟩
theorem ok_lexis_IsWord (k : Nat) : C_lexis_IsWord (Za8 k) := s_lexis_IsWord k

def C_lexis_isLetter (φ : Int → Option Bool) : Prop := ∀ ⦃x1 : Int⦄ ⦃r : Bool⦄, φ x1 = some r → ∀ ⦃w0 : World⦄ ⦃h0 : Hp⦄, Sub h0 w0 →
  Calls Tryz.prog 135 #[.int .u8 x1] w0 fun e w1 => ∃ v, e = .returned v ∧ ∃ h1, Stp [] w0 h0 w1 h1 ∧ v = .bool r
theorem s_lexis_isLetter (k : Nat) : C_lexis_isLetter (Z6g k) := by
 intro x1 r HF w0 h0  hs0 
 have S0 : Stp [] w0 h0 w0 h0 := Stp.refl hs0 _
 refine Z66 (n := 9) Tryz.func135 rfl Tryz.ntmps135 rfl [(0, .int .u8 x1)] rfl <| Za <| Z0 <| Wa rfl rfl <| Z7 <| Z5 <| Za <| Z0 <| Wm rfl rfl <| Wv rfl (ov_geq rfl rfl) <| Wm rfl rfl <| Z2m 5 HF rfl (fun HF => ?_) (fun HF => ?_)
 ·refine Wm rfl rfl <| Wv rfl (Zdo rfl rfl) <| Wv rfl (Zh rfl rfl) <| Wa rfl rfl <| Z7 <| Z5 <| Z09 <| Zt rfl rfl ?_
  obtain rfl := Option.some.inj HF
  exact ⟨_, rfl, h0, S0, rfl⟩
 refine Wp rfl <| Wp rfl <| Wv rfl (Zf rfl rfl) <| Wa rfl rfl <| Z7 <| Z5 <| Z09 <| Zt rfl rfl ?_
 obtain rfl := Option.some.inj HF
 exact ⟨_, rfl, h0, S0, rfl⟩
theorem Zf7 (k : Nat) : C_lexis_isLetter (Z6g k) := s_lexis_isLetter k

def C_lexis_isDigit (φ : Int → Option Bool) : Prop := ∀ ⦃x1 : Int⦄ ⦃r : Bool⦄, φ x1 = some r → ∀ ⦃w0 : World⦄ ⦃h0 : Hp⦄, Sub h0 w0 →
  Calls Tryz.prog 140 #[.int .u8 x1] w0 fun e w1 => ∃ v, e = .returned v ∧ ∃ h1, Stp [] w0 h0 w1 h1 ∧ v = .bool r
theorem s_lexis_isDigit (k : Nat) : C_lexis_isDigit (Z96 k) := by
 intro x1 r HF w0 h0  hs0 
 have S0 : Stp [] w0 h0 w0 h0 := Stp.refl hs0 _
 refine Z66 (n := 9) Tryz.func140 rfl Tryz.ntmps140 rfl [(0, .int .u8 x1)] rfl <| Za <| Z0 <| Wa rfl rfl <| Z7 <| Z5 <| Za <| Z0 <| Wm rfl rfl <| Wv rfl (ov_geq rfl rfl) <| Wm rfl rfl <| Z2m 5 HF rfl (fun HF => ?_) (fun HF => ?_)
 ·refine Wm rfl rfl <| Wv rfl (Zdo rfl rfl) <| Wv rfl (Zh rfl rfl) <| Wa rfl rfl <| Z7 <| Z5 <| Z09 <| Zt rfl rfl ?_
  obtain rfl := Option.some.inj HF
  exact ⟨_, rfl, h0, S0, rfl⟩
 refine Wp rfl <| Wp rfl <| Wv rfl (Zf rfl rfl) <| Wa rfl rfl <| Z7 <| Z5 <| Z09 <| Zt rfl rfl ?_
 obtain rfl := Option.some.inj HF
 exact ⟨_, rfl, h0, S0, rfl⟩
theorem ok_lexis_isDigit (k : Nat) : C_lexis_isDigit (Z96 k) := s_lexis_isDigit k

def C_lexis_isPart (φ : Int → Option Bool) : Prop := ∀ ⦃x1 : Int⦄ ⦃r : Bool⦄, φ x1 = some r → ∀ ⦃w0 : World⦄ ⦃h0 : Hp⦄, Sub h0 w0 →
  Calls Tryz.prog 134 #[.int .u8 x1] w0 fun e w1 => ∃ v, e = .returned v ∧ ∃ h1, Stp [] w0 h0 w1 h1 ∧ v = .bool r
theorem s_lexis_isPart (k : Nat) : C_lexis_isPart (Za6 k) := by
 intro x1 r HF w0 h0  hs0 
 have S0 : Stp [] w0 h0 w0 h0 := Stp.refl hs0 _
 refine Z66 (n := 13) Tryz.func134 rfl Tryz.ntmps134 rfl [(0, .int .u8 x1)] rfl <| Za <| Z0 <| Wa rfl rfl <| Z7 <| Z5 <| Za <| Z0 <| Wm rfl rfl ?_
 obtain ⟨r2, hr3, HF⟩ := Z6 HF
 refine Wc rfl (Zi (vs := [.int .u8 x1]) rfl t_ent_135) (Zf7 _ hr3 S0.sub) ?_
 rintro _ w5 ⟨h6, s7, rfl⟩
 have S8 := S0.trans0 s7
 refine Wm rfl rfl <| Z2m 5 HF rfl (fun HF => ?_) (fun HF => ?_)
 ·refine Wp rfl <| Wp rfl <| Wv rfl (Zh rfl rfl) <| Wm rfl rfl <| Wp rfl <| Wp rfl <| Wv rfl (Zh rfl rfl) <| Wa rfl rfl <| Z7 <| Z5 <| Z09 <| Zt rfl rfl ?_
  obtain rfl := Option.some.inj HF
  exact ⟨_, rfl, h6, S8, rfl⟩
 refine Wm rfl rfl ?_
 obtain ⟨r10, hr11, HF⟩ := Z6 HF
 refine Wc rfl (Zi (vs := [.int .u8 x1]) rfl t_ent_140) (ok_lexis_isDigit _ hr11 S8.sub) ?_
 rintro _ w13 ⟨h14, s15, rfl⟩
 have S16 := S8.trans0 s15
 refine Wv rfl (Zf rfl rfl) <| Wm rfl rfl <| Z2m 9 HF rfl (fun HF => ?_) (fun HF => ?_)
 ·refine Wp rfl <| Wp rfl <| Wv rfl (Zh rfl rfl) <| Wa rfl rfl <| Z7 <| Z5 <| Z09 <| Zt rfl rfl ?_
  obtain rfl := Option.some.inj HF
  exact ⟨_, rfl, h14, S16, rfl⟩
 refine Wm rfl rfl <| Wv rfl (Z0y rfl rfl) <| Wv rfl (Zf rfl rfl) <| Wa rfl rfl <| Z7 <| Z5 <| Z09 <| Zt rfl rfl ?_
 obtain rfl := Option.some.inj HF
 exact ⟨_, rfl, h14, S16, rfl⟩
theorem ok_lexis_isPart (k : Nat) : C_lexis_isPart (Za6 k) := s_lexis_isPart k

def Zde (φ : ByteArray → Option Bool) : Prop := ∀ ⦃x1 : ByteArray⦄ ⦃r : Bool⦄, φ x1 = some r → ∀ ⦃w0 : World⦄ ⦃h0 : Hp⦄, Sub h0 w0 →
  Calls Tryz.prog 118 #[.string x1] w0 fun e w1 => ∃ v, e = .returned v ∧ ∃ h1, Stp [] w0 h0 w1 h1 ∧ v = .bool r
theorem s_lexis_isRun (k : Nat) (IH : ∀ j, j ≤ k → Zde (Z2j j).lexis_isRun) : Zde (m_lexis_isRun k (Z2j k)) := by
 intro x1 r HF w0 h0  hs0 
 have S0 : Stp [] w0 h0 w0 h0 := Stp.refl hs0 _
 refine Z66 (n := 22) Tryz.func118 rfl Tryz.ntmps118 rfl [(0, .string x1)] rfl <| Za <| Z0 <| Wa rfl rfl <| Z7 <| Z5 <| Za <| Za <| Z0 <| Wm rfl rfl <| Wv rfl (ov_lenS rfl Z3b) <| Wm rfl rfl <| Z7 <| Z5 <| Z0c <| Z4j <| Z8e [0, 5, 6] [(0, .string x1), (5, vi (x1.size : Int)), (6, vi 0)] rfl <| Z4m (K := k) (fun j E w3 => ∃ (h2 : Hp) (x6 : Int), (Z2j j).lexis_isRun_l1 x1 x6 = some r ∧ E = [(0, .string x1), (5, vi (x1.size : Int)), (6, vi x6)] ∧ Stp [] w0 h0 w3 h2 ∧ Hle h0 h2) ?_ ?_ (j := k) (Nat.le_refl _) ?_
 ·rintro E w3 ⟨_, _, HF, _⟩; cases HF
 ·rintro j7 hj9 IHL8 E w3 ⟨h2, x6, HF, rfl, S5, le4⟩
  refine Za <| Z0 <| Wv rfl (Z6q rfl rfl) <| Z7 <| Z5 <| Z04 (fun E w22 => ∃ (h21 : Hp), Zej j7 (Z2j j7) x1 x6 = some r ∧ E = [(0, .string x1), (5, vi (x1.size : Int)), (6, vi x6)] ∧ Stp [] w0 h0 w22 h21 ∧ Hle h2 h21) ?_ ?_
  ·rintro E w22 ⟨h21, HF, rfl, S24, le23⟩
   refine Za <| Z0c <| Za <| Z0 <| Wm rfl rfl <| Wa rfl rfl <| Z7 <| Z5 <| Za <| Z0 <| Wm rfl rfl <| Wm rfl rfl ?_
   obtain ⟨c25, hc26, HF⟩ := Z6 HF
   refine Wv rfl (Zbs rfl rfl Z3b hc26) ?_
   obtain ⟨r27, hr28, HF⟩ := Z6 HF
   refine Wc rfl (Zi (vs := [.int .u8 c25]) rfl t_ent_134) (ok_lexis_isPart _ hr28 S24.sub) ?_
   rintro _ w30 ⟨h31, s32, rfl⟩
   have S33 := S24.trans0 s32
   refine Wv rfl (Z4o rfl) <| Z7 <| Z5 <| Z12 HF rfl (fun HF => ?_) (fun HF => ?_)
   ·refine Za <| Z0 <| Wa rfl rfl <| Z7 <| Z5 <| Z09 <| Z03 <| Zp <| Zp <| Z03 <| Zp <| Zt rfl rfl ?_
    obtain rfl := Option.some.inj HF
    exact ⟨_, rfl, h31, S33, rfl⟩
   refine Zm <| Zv <| Z5 <| Z0 <| Wv rfl (Z2v rfl rfl) <| Wm rfl rfl <| Z7 <| Z2x <| Z8e [0, 5, 6] [(0, .string x1), (5, vi (x1.size : Int)), (6, vi (IntKind.i64.wrap (x6 + 1)))] rfl ?_
   exact IHL8 j7 (Nat.le_refl _) _ _ ⟨h31, IntKind.i64.wrap (x6 + 1), HF, rfl, S33, (le4).trans ((le23).trans s32.le)⟩
  intro J35
  refine Z12 HF rfl (fun HF => ?_) (fun HF => ?_)
  ·refine Zm <| Z06 [0, 5, 6] _ rfl ?_
   exact J35 ⟨h2, HF, rfl, S5, Hle.refl _⟩
  refine Z4b <| Zr <| Zr <| Z0x <| Z5 <| Za <| Z0 <| Wm rfl rfl <| Wv rfl (ov_neqS rfl rfl) <| Wm rfl rfl <| Z2m 17 HF rfl (fun HF => ?_) (fun HF => ?_)
  ·refine Wm rfl rfl ?_
   obtain ⟨c12, hc13, HF⟩ := Z6 HF
   refine Wv rfl (Zbs rfl rfl Z3b hc13) ?_
   obtain ⟨r14, hr15, HF⟩ := Z6 HF
   refine Wc rfl (Zi (vs := [.int .u8 c12]) rfl t_ent_135) (Zf7 _ hr15 S5.sub) ?_
   rintro _ w17 ⟨h18, s19, rfl⟩
   have S20 := S5.trans0 s19
   refine Wv rfl (Zh rfl rfl) <| Wa rfl rfl <| Z7 <| Z5 <| Z09 <| Zt rfl rfl ?_
   obtain rfl := Option.some.inj HF
   exact ⟨_, rfl, h18, S20, rfl⟩
  refine Wp rfl <| Wp rfl <| Wp rfl <| Wv rfl (Zf rfl rfl) <| Wa rfl rfl <| Z7 <| Z5 <| Z09 <| Zt rfl rfl ?_
  obtain rfl := Option.some.inj HF
  exact ⟨_, rfl, h2, S5, rfl⟩
 exact ⟨h0, 0, HF, rfl, S0, Hle.refl _⟩
theorem all_lexis_isRun : ∀ k j, j ≤ k → Zde (Z2j j).lexis_isRun := by
  intro k
  induction k with
  | zero =>
    intro j hj
    obtain rfl : j = 0 := by omega
    exact (fun _ _ => by intro h; cases h)
  | succ k ih =>
    intro j hj
    by_cases h : j ≤ k
    · exact ih j h
    · obtain rfl : j = k + 1 := by omega
      exact s_lexis_isRun k ih
theorem ok_lexis_isRun (k : Nat) : Zde (F_lexis_isRun k) := (all_lexis_isRun k k (Nat.le_refl _))

def C_lexis_IsName (φ : ByteArray → Option Bool) : Prop := ∀ ⦃x1 : ByteArray⦄ ⦃r : Bool⦄, φ x1 = some r → ∀ ⦃w0 : World⦄ ⦃h0 : Hp⦄, Sub h0 w0 →
  Calls Tryz.prog 100 #[.string x1] w0 fun e w1 => ∃ v, e = .returned v ∧ ∃ h1, Stp [] w0 h0 w1 h1 ∧ v = .bool r
theorem s_lexis_IsName (k : Nat) : C_lexis_IsName (Z5t k) := by
 intro x1 r HF w0 h0  hs0 
 have S0 : Stp [] w0 h0 w0 h0 := Stp.refl hs0 _
 refine Z66 (n := 15) Tryz.func100 rfl Tryz.ntmps100 rfl [(0, .string x1)] rfl <| Za <| Z0 <| Wa rfl rfl <| Z7 <| Z5 <| Za <| Z0 <| Wm rfl rfl ?_
 obtain ⟨r2, hr3, HF⟩ := Z6 HF
 refine Wc rfl (Zi (vs := [.string x1]) rfl t_ent_118) (ok_lexis_isRun _ hr3 S0.sub) ?_
 rintro _ w5 ⟨h6, s7, rfl⟩
 have S8 := S0.trans0 s7
 refine Wm rfl rfl <| Z2m 5 HF rfl (fun HF => ?_) (fun HF => ?_)
 ·refine Wm rfl rfl <| Wv rfl (ov_lenS rfl Z3b) <| Wv rfl (Zdo rfl rfl) <| Wv rfl (Zh rfl rfl) <| Wm rfl rfl <| Z2m 10 HF rfl (fun HF => ?_) (fun HF => ?_)
  ·refine Wm rfl rfl ?_
   obtain ⟨r11, hr12, HF⟩ := Z6 HF
   refine Wc rfl (Zi (vs := [.string x1]) rfl t_ent_119) (ok_lexis_IsWord _ hr12 S8.sub) ?_
   rintro _ w14 ⟨h15, s16, rfl⟩
   have S17 := S8.trans0 s16
   refine Wv rfl (Z4o rfl) <| Wv rfl (Zh rfl rfl) <| Wa rfl rfl <| Z7 <| Z5 <| Z09 <| Zt rfl rfl ?_
   obtain rfl := Option.some.inj HF
   exact ⟨_, rfl, h15, S17, rfl⟩
  refine Wp rfl <| Wp rfl <| Wp rfl <| Wv rfl (Zf rfl rfl) <| Wa rfl rfl <| Z7 <| Z5 <| Z09 <| Zt rfl rfl ?_
  obtain rfl := Option.some.inj HF
  exact ⟨_, rfl, h6, S8, rfl⟩
 refine Wp rfl <| Wp rfl <| Wp rfl <| Wv rfl (Zf rfl rfl) <| Wm rfl rfl <| Wp rfl <| Wp rfl <| Wp rfl <| Wv rfl (Zf rfl rfl) <| Wa rfl rfl <| Z7 <| Z5 <| Z09 <| Zt rfl rfl ?_
 obtain rfl := Option.some.inj HF
 exact ⟨_, rfl, h6, S8, rfl⟩
theorem ok_lexis_IsName (k : Nat) : C_lexis_IsName (Z5t k) := s_lexis_IsName k

def C_ast_isNamed (φ : ByteArray → Bool → Option Bool) : Prop := ∀ ⦃x1 : ByteArray⦄ ⦃x2 : Bool⦄ ⦃r : Bool⦄, φ x1 x2 = some r → ∀ ⦃w0 : World⦄ ⦃h0 : Hp⦄, Sub h0 w0 →
  Calls Tryz.prog 80 #[.string x1, .bool x2] w0 fun e w1 => ∃ v, e = .returned v ∧ ∃ h1, Stp [] w0 h0 w1 h1 ∧ v = .bool r
theorem s_ast_isNamed (k : Nat) : C_ast_isNamed (Z86 k) := by
 intro x1 x2 r HF w0 h0  hs0 
 have S0 : Stp [] w0 h0 w0 h0 := Stp.refl hs0 _
 refine Z66 (n := 10) Tryz.func80 rfl Tryz.ntmps80 rfl [(0, .string x1), (1, .bool x2)] rfl <| Za <| Z0 <| Wa rfl rfl <| Z7 <| Z5 <| Z04 (fun E w12 => ∃ (h11 : Hp), Zeo k x1 = some r ∧ E = [(0, .string x1)] ∧ Stp [] w0 h0 w12 h11 ∧ Hle h0 h11) ?_ ?_
 ·rintro E w12 ⟨h11, HF, rfl, S14, le13⟩
  refine Za <| Z0 <| Wm rfl rfl <| Wv rfl (Z0g rfl rfl) <| Wa rfl rfl <| Z7 <| Z5 <| Z09 <| Zt rfl rfl ?_
  obtain rfl := Option.some.inj HF
  exact ⟨_, rfl, h11, S14, rfl⟩
 intro J15
 refine Za <| Z0 <| Wm rfl rfl <| Z7 <| Z5 <| Z12 HF rfl (fun HF => ?_) (fun HF => ?_)
 ·refine Za <| Z0 <| Wm rfl rfl ?_
  obtain ⟨r4, hr5, HF⟩ := Z6 HF
  refine Wc rfl (Zi (vs := [.string x1]) rfl t_ent_100) (ok_lexis_IsName _ hr5 S0.sub) ?_
  rintro _ w7 ⟨h8, s9, rfl⟩
  have S10 := S0.trans0 s9
  refine Wa rfl rfl <| Z7 <| Z5 <| Z09 <| Zp <| Zt rfl rfl ?_
  obtain rfl := Option.some.inj HF
  exact ⟨_, rfl, h8, S10, rfl⟩
 refine Zm <| Z06 [0] _ rfl ?_
 exact J15 ⟨h0, HF, rfl, S0, Hle.refl _⟩
theorem Zey (k : Nat) : C_ast_isNamed (Z86 k) := s_ast_isNamed k

def C_ast_AreNames_1 (φ : ByteArray → Option Bool) : Prop := ∀ ⦃x1 : ByteArray⦄ ⦃r : Bool⦄, φ x1 = some r → ∀ ⦃w0 : World⦄ ⦃h0 : Hp⦄, Sub h0 w0 →
  Calls Tryz.prog 108 #[.string x1] w0 fun e w1 => ∃ v, e = .returned v ∧ ∃ h1, Stp [] w0 h0 w1 h1 ∧ v = .bool r
theorem s_ast_AreNames_1 (k : Nat) : C_ast_AreNames_1 (Z87 k) := by
 intro x1 r HF w0 h0  hs0 
 have S0 : Stp [] w0 h0 w0 h0 := Stp.refl hs0 _
 refine Z66 (n := 6) Tryz.func108 rfl Tryz.ntmps108 rfl [(0, .string x1)] rfl <| Za <| Z0 <| Wa rfl rfl <| Z7 <| Z5 <| Za <| Z0 <| Wm rfl rfl ?_
 obtain ⟨r2, hr3, HF⟩ := Z6 HF
 refine Wc rfl (Zi (vs := [.string x1]) rfl t_ent_100) (ok_lexis_IsName _ hr3 S0.sub) ?_
 rintro _ w5 ⟨h6, s7, rfl⟩
 have S8 := S0.trans0 s7
 refine Wv rfl (Z4o rfl) <| Wa rfl rfl <| Z7 <| Z5 <| Z09 <| Zt rfl rfl ?_
 obtain rfl := Option.some.inj HF
 exact ⟨_, rfl, h6, S8, rfl⟩
theorem ok_ast_AreNames_1 (k : Nat) : C_ast_AreNames_1 (Z87 k) := s_ast_AreNames_1 k

def Z2y (φ : (List ByteArray) → Option Int) : Prop := ∀ ⦃xs1 : List ByteArray⦄ ⦃r : Int⦄, φ xs1 = some r → ∀ ⦃w0 : World⦄ ⦃h0 : Hp⦄ ⦃v2 : Value⦄, Sub h0 w0 → RS h0 v2 xs1 →
  Calls Tryz.prog 125 #[v2, .func (.func 108) #[] #[]] w0 fun e w1 => ∃ v, e = .returned v ∧ ∃ h1, Stp [] w0 h0 w1 h1 ∧ v = .int .i64 r
theorem Zb6 (k : Nat) (IH : ∀ j, j ≤ k → Z2y (Zw j).slices_IndexFunc_string_string) : Z2y (Z45 k (Zw k)) := by
 intro xs1 r HF w0 h0 v2 hs0 rs3
 have S0 : Stp [] w0 h0 w0 h0 := Stp.refl hs0 _
 refine Z66 (n := 19) Tryz.func125 rfl Tryz.ntmps125 rfl [(0, v2), (1, .func (.func 108) #[] #[])] rfl <| Za <| Z0 <| Wa rfl rfl <| Z7 <| Z5 <| Za <| Za <| Z0 <| Wm rfl rfl ?_
 obtain ⟨A4, c5, rfl, rs6⟩ := RS.form rs3
 refine Wv rfl (Z0v rfl Z26) <| Wm rfl rfl <| Z7 <| Z5 <| Z0c <| Z4j <| Z8e [0, 1, 7, 8] [(0, .slice A4 (xs1).length c5), (1, .func (.func 108) #[] #[]), (7, vi (xs1.length : Int)), (8, vi 0)] rfl <| Z4m (K := k) (fun j E w8 => ∃ (h7 : Hp) (x11 : Int), (Zw j).slices_IndexFunc_string_string_l1 xs1 x11 = some r ∧ E = [(0, .slice A4 (xs1).length c5), (1, .func (.func 108) #[] #[]), (7, vi (xs1.length : Int)), (8, vi x11)] ∧ Stp [] w0 h0 w8 h7 ∧ Hle h0 h7) ?_ ?_ (j := k) (Nat.le_refl _) ?_
 ·rintro E w8 ⟨_, _, HF, _⟩; cases HF
 ·rintro j12 hj14 IHL13 E w8 ⟨h7, x11, HF, rfl, S10, le9⟩
  refine Za <| Z0 <| Wv rfl (Z6q rfl rfl) <| Z7 <| Z5 <| Z04 (fun E w17 => ∃ (h16 : Hp), Z2u j12 (Zw j12) xs1 x11 = some r ∧ E = [(0, .slice A4 (xs1).length c5), (1, .func (.func 108) #[] #[]), (7, vi (xs1.length : Int)), (8, vi x11)] ∧ Stp [] w0 h0 w17 h16 ∧ Hle h7 h16) ?_ ?_
  ·rintro E w17 ⟨h16, HF, rfl, S19, le18⟩
   refine Za <| Z0c <| Za <| Z0 <| Wm rfl rfl <| Wa rfl rfl <| Z7 <| Z5 <| Za <| Z0 <| Wm rfl rfl <| Wm rfl rfl <| Wm rfl rfl ?_
   obtain ⟨e20, he21, HF⟩ := Z6 HF
   obtain ⟨b22, o23, rfl, h25, h26, ra24⟩ := RS.atO (rs6.mono ((le9).trans le18)) he21
   obtain ⟨cs27, r28, hc29⟩ := ra24
   obtain rfl := (show cs27 = _ from r28)
   refine Wv rfl (Zk rfl rfl Z26 Z6k h25 h26) <| Wv rfl (Z8 rfl Z3l (S19.sub.at_ _ _ _ (hc29 0 _ rfl))) ?_
   obtain ⟨r30, hr31, HF⟩ := Z6 HF
   refine Wc rfl (oc_val (vs := [.string e20]) (caps := []) rfl rfl t_ent_108) (ok_ast_AreNames_1 _ hr31 S19.sub) ?_
   rintro _ w33 ⟨h34, s35, rfl⟩
   have S36 := S19.trans0 s35
   refine Z7 <| Z5 <| Z12 HF rfl (fun HF => ?_) (fun HF => ?_)
   ·refine Za <| Z0 <| Wm rfl rfl <| Wa rfl rfl <| Z7 <| Z5 <| Z09 <| Z03 <| Zp <| Zp <| Z03 <| Zp <| Zt rfl rfl ?_
    obtain rfl := Option.some.inj HF
    exact ⟨_, rfl, h34, S36, rfl⟩
   refine Zm <| Zv <| Z5 <| Z0 <| Wv rfl (Z2v rfl rfl) <| Wm rfl rfl <| Z7 <| Z2x <| Z8e [0, 1, 7, 8] [(0, sl b22 o23 (xs1).length c5), (1, .func (.func 108) #[] #[]), (7, vi (xs1.length : Int)), (8, vi (IntKind.i64.wrap (x11 + 1)))] rfl ?_
   exact IHL13 j12 (Nat.le_refl _) _ _ ⟨h34, IntKind.i64.wrap (x11 + 1), HF, rfl, S36, (le9).trans ((le18).trans s35.le)⟩
  intro J38
  refine Z12 HF rfl (fun HF => ?_) (fun HF => ?_)
  ·refine Zm <| Z06 [0, 1, 7, 8] _ rfl ?_
   exact J38 ⟨h7, HF, rfl, S10, Hle.refl _⟩
  refine Z4b <| Zr <| Zr <| Z0x <| Z5 <| Za <| Z0 <| Wa rfl rfl <| Z7 <| Z5 <| Z09 <| Zt rfl rfl ?_
  obtain rfl := Option.some.inj HF
  exact ⟨_, rfl, h7, S10, rfl⟩
 exact ⟨h0, 0, HF, rfl, S0, Hle.refl _⟩
theorem Zaf : ∀ k j, j ≤ k → Z2y (Zw j).slices_IndexFunc_string_string := by
  intro k
  induction k with
  | zero =>
    intro j hj
    obtain rfl : j = 0 := by omega
    exact (fun _ _ => by intro h; cases h)
  | succ k ih =>
    intro j hj
    by_cases h : j ≤ k
    · exact ih j h
    · obtain rfl : j = k + 1 := by omega
      exact Zb6 k ih
theorem Zap (k : Nat) : Z2y (Z31 k) := (Zaf k k (Nat.le_refl _))

def Z5n (φ : (List ByteArray) → Option Bool) : Prop := ∀ ⦃xs1 : List ByteArray⦄ ⦃r : Bool⦄, φ xs1 = some r → ∀ ⦃w0 : World⦄ ⦃h0 : Hp⦄ ⦃v2 : Value⦄, Sub h0 w0 → RS h0 v2 xs1 →
  Calls Tryz.prog 107 #[v2, .func (.func 108) #[] #[]] w0 fun e w1 => ∃ v, e = .returned v ∧ ∃ h1, Stp [] w0 h0 w1 h1 ∧ v = .bool r
theorem Z9v (k : Nat) : Z5n (Z2f k) := by
 intro xs1 r HF w0 h0 v2 hs0 rs3
 have S0 : Stp [] w0 h0 w0 h0 := Stp.refl hs0 _
 refine Z66 (n := 9) Tryz.func107 rfl Tryz.ntmps107 rfl [(0, v2), (1, .func (.func 108) #[] #[])] rfl <| Za <| Z0 <| Wa rfl rfl <| Z7 <| Z5 <| Za <| Z0 <| Wm rfl rfl <| Wm rfl rfl ?_
 obtain ⟨r4, hr5, HF⟩ := Z6 HF
 refine Wc rfl (Zi (vs := [v2, .func (.func 108) #[] #[]]) rfl t_ent_125) (Zap _ hr5 S0.sub rs3) ?_
 rintro _ w7 ⟨h8, s9, rfl⟩
 have S10 := S0.trans0 s9
 refine Wv rfl (ov_geq rfl rfl) <| Wa rfl rfl <| Z7 <| Z5 <| Z09 <| Zt rfl rfl ?_
 obtain rfl := Option.some.inj HF
 exact ⟨_, rfl, h8, S10, rfl⟩
theorem Z9k (k : Nat) : Z5n (Z2f k) := Z9v k

def C_ast_AreNames (φ : (List ByteArray) → Option Bool) : Prop := ∀ ⦃xs1 : List ByteArray⦄ ⦃r : Bool⦄, φ xs1 = some r → ∀ ⦃w0 : World⦄ ⦃h0 : Hp⦄ ⦃v2 : Value⦄, Sub h0 w0 → RS h0 v2 xs1 →
  Calls Tryz.prog 86 #[v2] w0 fun e w1 => ∃ v, e = .returned v ∧ ∃ h1, Stp [] w0 h0 w1 h1 ∧ v = .bool r
theorem s_ast_AreNames (k : Nat) : C_ast_AreNames (Z8k k) := by
 intro xs1 r HF w0 h0 v2 hs0 rs3
 have S0 : Stp [] w0 h0 w0 h0 := Stp.refl hs0 _
 refine Z66 (n := 6) Tryz.func86 rfl Tryz.ntmps86 rfl [(0, v2)] rfl <| Za <| Z0 <| Wa rfl rfl <| Z7 <| Z5 <| Za <| Z0 <| Wm rfl rfl ?_
 obtain ⟨r4, hr5, HF⟩ := Z6 HF
 refine Wc rfl (Zi (vs := [v2, .func (.func 108) #[] #[]]) rfl t_ent_107) (Z9k _ hr5 S0.sub rs3) ?_
 rintro _ w7 ⟨h8, s9, rfl⟩
 have S10 := S0.trans0 s9
 refine Wv rfl (Z4o rfl) <| Wa rfl rfl <| Z7 <| Z5 <| Z09 <| Zt rfl rfl ?_
 obtain rfl := Option.some.inj HF
 exact ⟨_, rfl, h8, S10, rfl⟩
theorem ok_ast_AreNames (k : Nat) : C_ast_AreNames (Z8k k) := s_ast_AreNames k

def Zd9 (φ : Int → Option Bool) : Prop := ∀ ⦃x1 : Int⦄ ⦃r : Bool⦄, φ x1 = some r → ∀ ⦃w0 : World⦄ ⦃h0 : Hp⦄, Sub h0 w0 →
  Calls Tryz.prog 110 #[.int .i64 x1] w0 fun e w1 => ∃ v, e = .returned v ∧ ∃ h1, Stp [] w0 h0 w1 h1 ∧ v = .bool r
theorem s_ast_Counter_arm_1 (k : Nat) : Zd9 (Z5w k) := by
 intro x1 r HF w0 h0  hs0 
 have S0 : Stp [] w0 h0 w0 h0 := Stp.refl hs0 _
 refine Z66 (n := 6) Tryz.func110 rfl Tryz.ntmps110 rfl [(0, vi x1)] rfl <| Za <| Z0 <| Wa rfl rfl <| Z7 <| Z5 <| Za <| Z0 <| Wm rfl rfl ?_
 obtain ⟨r2, hr3, HF⟩ := Z6 HF
 refine Wc rfl (Zi (vs := [vi x1]) rfl t_ent_34) (Zc7 _ hr3 S0.sub) ?_
 rintro _ w5 ⟨h6, s7, rfl⟩
 have S8 := S0.trans0 s7
 refine Wv rfl (Z4o rfl) <| Wa rfl rfl <| Z7 <| Z5 <| Z09 <| Zt rfl rfl ?_
 obtain rfl := Option.some.inj HF
 exact ⟨_, rfl, h6, S8, rfl⟩
theorem ok_ast_Counter_arm_1 (k : Nat) : Zd9 (Z5w k) := s_ast_Counter_arm_1 k

def Z4d (φ : (List Int) → Option Int) : Prop := ∀ ⦃xs1 : List Int⦄ ⦃r : Int⦄, φ xs1 = some r → ∀ ⦃w0 : World⦄ ⦃h0 : Hp⦄ ⦃v2 : Value⦄, Sub h0 w0 → RS h0 v2 xs1 →
  Calls Tryz.prog 126 #[v2, .func (.func 110) #[] #[]] w0 fun e w1 => ∃ v, e = .returned v ∧ ∃ h1, Stp [] w0 h0 w1 h1 ∧ v = .int .i64 r
theorem Zdu (k : Nat) (IH : ∀ j, j ≤ k → Z4d (Z0b j).slices_IndexFunc_int_int) : Z4d (Z61 k (Z0b k)) := by
 intro xs1 r HF w0 h0 v2 hs0 rs3
 have S0 : Stp [] w0 h0 w0 h0 := Stp.refl hs0 _
 refine Z66 (n := 19) Tryz.func126 rfl Tryz.ntmps126 rfl [(0, v2), (1, .func (.func 110) #[] #[])] rfl <| Za <| Z0 <| Wa rfl rfl <| Z7 <| Z5 <| Za <| Za <| Z0 <| Wm rfl rfl ?_
 obtain ⟨A4, c5, rfl, rs6⟩ := RS.form rs3
 refine Wv rfl (Z0v rfl Z43) <| Wm rfl rfl <| Z7 <| Z5 <| Z0c <| Z4j <| Z8e [0, 1, 7, 8] [(0, .slice A4 (xs1).length c5), (1, .func (.func 110) #[] #[]), (7, vi (xs1.length : Int)), (8, vi 0)] rfl <| Z4m (K := k) (fun j E w8 => ∃ (h7 : Hp) (x11 : Int), (Z0b j).slices_IndexFunc_int_int_l1 xs1 x11 = some r ∧ E = [(0, .slice A4 (xs1).length c5), (1, .func (.func 110) #[] #[]), (7, vi (xs1.length : Int)), (8, vi x11)] ∧ Stp [] w0 h0 w8 h7 ∧ Hle h0 h7) ?_ ?_ (j := k) (Nat.le_refl _) ?_
 ·rintro E w8 ⟨_, _, HF, _⟩; cases HF
 ·rintro j12 hj14 IHL13 E w8 ⟨h7, x11, HF, rfl, S10, le9⟩
  refine Za <| Z0 <| Wv rfl (Z6q rfl rfl) <| Z7 <| Z5 <| Z04 (fun E w17 => ∃ (h16 : Hp), Z42 j12 (Z0b j12) xs1 x11 = some r ∧ E = [(0, .slice A4 (xs1).length c5), (1, .func (.func 110) #[] #[]), (7, vi (xs1.length : Int)), (8, vi x11)] ∧ Stp [] w0 h0 w17 h16 ∧ Hle h7 h16) ?_ ?_
  ·rintro E w17 ⟨h16, HF, rfl, S19, le18⟩
   refine Za <| Z0c <| Za <| Z0 <| Wm rfl rfl <| Wa rfl rfl <| Z7 <| Z5 <| Za <| Z0 <| Wm rfl rfl <| Wm rfl rfl <| Wm rfl rfl ?_
   obtain ⟨e20, he21, HF⟩ := Z6 HF
   obtain ⟨b22, o23, rfl, h25, h26, ra24⟩ := RS.atO (rs6.mono ((le9).trans le18)) he21
   obtain ⟨cs27, r28, hc29⟩ := ra24
   obtain rfl := (show cs27 = _ from r28)
   refine Wv rfl (Zk rfl rfl Z43 Zeb h25 h26) <| Wv rfl (Z8 rfl Z0t (S19.sub.at_ _ _ _ (hc29 0 _ rfl))) ?_
   obtain ⟨r30, hr31, HF⟩ := Z6 HF
   refine Wc rfl (oc_val (vs := [vi e20]) (caps := []) rfl rfl t_ent_110) (ok_ast_Counter_arm_1 _ hr31 S19.sub) ?_
   rintro _ w33 ⟨h34, s35, rfl⟩
   have S36 := S19.trans0 s35
   refine Z7 <| Z5 <| Z12 HF rfl (fun HF => ?_) (fun HF => ?_)
   ·refine Za <| Z0 <| Wm rfl rfl <| Wa rfl rfl <| Z7 <| Z5 <| Z09 <| Z03 <| Zp <| Zp <| Z03 <| Zp <| Zt rfl rfl ?_
    obtain rfl := Option.some.inj HF
    exact ⟨_, rfl, h34, S36, rfl⟩
   refine Zm <| Zv <| Z5 <| Z0 <| Wv rfl (Z2v rfl rfl) <| Wm rfl rfl <| Z7 <| Z2x <| Z8e [0, 1, 7, 8] [(0, sl b22 o23 (xs1).length c5), (1, .func (.func 110) #[] #[]), (7, vi (xs1.length : Int)), (8, vi (IntKind.i64.wrap (x11 + 1)))] rfl ?_
   exact IHL13 j12 (Nat.le_refl _) _ _ ⟨h34, IntKind.i64.wrap (x11 + 1), HF, rfl, S36, (le9).trans ((le18).trans s35.le)⟩
  intro J38
  refine Z12 HF rfl (fun HF => ?_) (fun HF => ?_)
  ·refine Zm <| Z06 [0, 1, 7, 8] _ rfl ?_
   exact J38 ⟨h7, HF, rfl, S10, Hle.refl _⟩
  refine Z4b <| Zr <| Zr <| Z0x <| Z5 <| Za <| Z0 <| Wa rfl rfl <| Z7 <| Z5 <| Z09 <| Zt rfl rfl ?_
  obtain rfl := Option.some.inj HF
  exact ⟨_, rfl, h7, S10, rfl⟩
 exact ⟨h0, 0, HF, rfl, S0, Hle.refl _⟩
theorem Zd0 : ∀ k j, j ≤ k → Z4d (Z0b j).slices_IndexFunc_int_int := by
  intro k
  induction k with
  | zero =>
    intro j hj
    obtain rfl : j = 0 := by omega
    exact (fun _ _ => by intro h; cases h)
  | succ k ih =>
    intro j hj
    by_cases h : j ≤ k
    · exact ih j h
    · obtain rfl : j = k + 1 := by omega
      exact Zdu k ih
theorem Zd3 (k : Nat) : Z4d (Z4f k) := (Zd0 k k (Nat.le_refl _))

def Z7r (φ : (List Int) → Option Bool) : Prop := ∀ ⦃xs1 : List Int⦄ ⦃r : Bool⦄, φ xs1 = some r → ∀ ⦃w0 : World⦄ ⦃h0 : Hp⦄ ⦃v2 : Value⦄, Sub h0 w0 → RS h0 v2 xs1 →
  Calls Tryz.prog 109 #[v2, .func (.func 110) #[] #[]] w0 fun e w1 => ∃ v, e = .returned v ∧ ∃ h1, Stp [] w0 h0 w1 h1 ∧ v = .bool r
theorem Zc5 (k : Nat) : Z7r (Z2n k) := by
 intro xs1 r HF w0 h0 v2 hs0 rs3
 have S0 : Stp [] w0 h0 w0 h0 := Stp.refl hs0 _
 refine Z66 (n := 9) Tryz.func109 rfl Tryz.ntmps109 rfl [(0, v2), (1, .func (.func 110) #[] #[])] rfl <| Za <| Z0 <| Wa rfl rfl <| Z7 <| Z5 <| Za <| Z0 <| Wm rfl rfl <| Wm rfl rfl ?_
 obtain ⟨r4, hr5, HF⟩ := Z6 HF
 refine Wc rfl (Zi (vs := [v2, .func (.func 110) #[] #[]]) rfl t_ent_126) (Zd3 _ hr5 S0.sub rs3) ?_
 rintro _ w7 ⟨h8, s9, rfl⟩
 have S10 := S0.trans0 s9
 refine Wv rfl (ov_geq rfl rfl) <| Wa rfl rfl <| Z7 <| Z5 <| Z09 <| Zt rfl rfl ?_
 obtain rfl := Option.some.inj HF
 exact ⟨_, rfl, h8, S10, rfl⟩
theorem Zbz (k : Nat) : Z7r (Z2n k) := Zc5 k

def C_ast_IsConst (φ : Int → Int → Option Bool) : Prop := ∀ ⦃x1 : Int⦄ ⦃x2 : Int⦄ ⦃r : Bool⦄, φ x1 x2 = some r → ∀ ⦃w0 : World⦄ ⦃h0 : Hp⦄, Sub h0 w0 →
  Calls Tryz.prog 33 #[.int .i64 x1, .int .i64 x2] w0 fun e w1 => ∃ v, e = .returned v ∧ ∃ h1, Stp [] w0 h0 w1 h1 ∧ v = .bool r
theorem s_ast_IsConst (k : Nat) : C_ast_IsConst (Z8d k) := by
 intro x1 x2 r HF w0 h0  hs0 
 have S0 : Stp [] w0 h0 w0 h0 := Stp.refl hs0 _
 refine Z66 (n := 15) Tryz.func33 rfl Tryz.ntmps33 rfl [(0, vi x1), (1, vi x2)] rfl <| Za <| Z0 <| Wa rfl rfl <| Z7 <| Z5 <| Z04 (fun E w27 => ∃ (h26 : Hp), Zch k  = some r ∧ E = [] ∧ Stp [] w0 h0 w27 h26 ∧ Hle h0 h26) ?_ ?_
 ·rintro E w27 ⟨h26, HF, rfl, S29, le28⟩
  refine Za <| Z0 <| Wa rfl rfl <| Z7 <| Z5 <| Z09 <| Zt rfl rfl ?_
  obtain rfl := Option.some.inj HF
  exact ⟨_, rfl, h26, S29, rfl⟩
 intro J30
 refine Za <| Z0 <| Wm rfl rfl <| Z7 <| Z5 <| Z0c <| Za <| Z0 <| Wv rfl (Z0y rfl rfl) <| Wa rfl rfl <| Z7 <| Z5 <| Z12 HF rfl (fun HF => ?_) (fun HF => ?_)
 ·refine Za <| Z0 <| Wm rfl rfl ?_
  obtain ⟨r4, hr5, HF⟩ := Z6 HF
  refine Wc rfl (Zi (vs := [vi x2, vi 0, vi 1]) rfl t_ent_62) (Zbu _ hr5 S0.sub) ?_
  rintro _ w7 ⟨h8, s9, rfl⟩
  have S10 := S0.trans0 s9
  refine Wa rfl rfl <| Z7 <| Z5 <| Z09 <| Z03 <| Zp <| Zt rfl rfl ?_
  obtain rfl := Option.some.inj HF
  exact ⟨_, rfl, h8, S10, rfl⟩
 refine Z04 (fun E w13 => ∃ (h12 : Hp) (x16 : Bool), Zam k x2 x16 = some r ∧ E = [(1, vi x2), (10, .bool x16)] ∧ Stp [] w0 h0 w13 h12 ∧ Hle h0 h12) ?_ ?_
 ·rintro E w13 ⟨h12, x16, HF, rfl, S15, le14⟩
  refine Z12 HF rfl (fun HF => ?_) (fun HF => ?_)
  ·refine Za <| Z0 <| Wm rfl rfl ?_
   obtain ⟨r18, hr19, HF⟩ := Z6 HF
   refine Wc rfl (Zi (vs := [vi x2, vi 0, vi 2147483647]) rfl t_ent_62) (Zbu _ hr19 S15.sub) ?_
   rintro _ w21 ⟨h22, s23, rfl⟩
   have S24 := S15.trans0 s23
   refine Wa rfl rfl <| Z7 <| Z5 <| Z09 <| Z03 <| Zp <| Zt rfl rfl ?_
   obtain rfl := Option.some.inj HF
   exact ⟨_, rfl, h22, S24, rfl⟩
  refine Zm <| Zv <| Z06 [] _ rfl ?_
  exact J30 ⟨h12, HF, rfl, S15, le14⟩
 intro J25
 refine Za <| Z0 <| Wv rfl (Z0y rfl rfl) <| Wa rfl rfl <| Z7 <| Z5 <| Z12 HF rfl (fun HF => ?_) (fun HF => ?_)
 ·refine Zm <| Z06 [1, 10] _ rfl ?_
  exact J25 ⟨h0, (x1 : Int) == 2, HF, rfl, S0, Hle.refl _⟩
 refine Z0 <| Wv rfl (Z0y rfl rfl) <| Wa rfl rfl <| Z7 <| Z06 [1, 10] _ rfl ?_
 exact J25 ⟨h0, (x1 : Int) == 3, HF, rfl, S0, Hle.refl _⟩
theorem ok_ast_IsConst (k : Nat) : C_ast_IsConst (Z8d k) := s_ast_IsConst k

def Z6c (φ : Int → Int → Ex → Int → Option (Bool × Int × Int)) : Prop := ∀ ⦃x3 : Int⦄ ⦃x4 : Int⦄ ⦃x6 : Ex⦄ ⦃x9 : Int⦄ ⦃r : Bool × Int × Int⦄, φ x3 x4 x6 x9 = some r → ∀ ⦃w0 : World⦄ ⦃h0 : Hp⦄ ⦃b1 : Nat⦄ ⦃T2 : Nat⦄ ⦃cs7 : List Value⦄, Sub h0 w0 → Rp.R h0 x6 cs7 → OB w0 h0 b1 T2 [.int .i64 x3, .int .i64 x4] →
  Calls Tryz.prog 54 #[.pointer (some ⟨b1, 0, none⟩), .agg cs7.toArray, .int .i64 x9] w0 fun e w1 => ∃ v, e = .returned v ∧ ∃ h1, Stp [b1] w0 h0 w1 h1 ∧ v = .bool r.1 ∧ (OB w1 h1 b1 T2 [.int .i64 r.2.1, .int .i64 r.2.2])
def Z5x (φ : Int → Int → (List Ex) → Int → Option (Bool × Int × Int)) : Prop := ∀ ⦃x3 : Int⦄ ⦃x4 : Int⦄ ⦃xs6 : List Ex⦄ ⦃x9 : Int⦄ ⦃r : Bool × Int × Int⦄, φ x3 x4 xs6 x9 = some r → ∀ ⦃w0 : World⦄ ⦃h0 : Hp⦄ ⦃b1 : Nat⦄ ⦃T2 : Nat⦄ ⦃v7 : Value⦄, Sub h0 w0 → RS h0 v7 xs6 → OB w0 h0 b1 T2 [.int .i64 x3, .int .i64 x4] →
  Calls Tryz.prog 81 #[.pointer (some ⟨b1, 0, none⟩), v7, .int .i64 x9] w0 fun e w1 => ∃ v, e = .returned v ∧ ∃ h1, Stp [b1] w0 h0 w1 h1 ∧ v = .bool r.1 ∧ (OB w1 h1 b1 T2 [.int .i64 r.2.1, .int .i64 r.2.2])
theorem s_ast_Counter_Expr (k : Nat) (IH : ∀ j, j ≤ k → Z6c (Zq j).ast_Counter_Expr ∧ Z5x (Zq j).ast_Counter_Exprs) : Z6c (Z6a k (Zq k)) := by
 intro x3 x4 x6 x9 r HF w0 h0 b1 T2 cs7 hs0 r8 ob5
 have S0 : Stp [b1] w0 h0 w0 h0 := Stp.refl hs0 _
 have lt10 : b1 < w0.heap.size := OB.lt ob5
 refine Z66 (n := 82) Tryz.func54 rfl Tryz.ntmps54 rfl [(0, pt b1 0), (1, .agg cs7.toArray), (2, vi x9)] rfl <| Za <| Z0 ?_
 obtain ⟨v11, rfl, rs12⟩ := rp_Ex.1 r8
 refine Zd2 (cs := [vi x6.op, vi x6.kind, vi x6.n, .string x6.s, .string x6.f, v11]) rfl rfl rfl rfl S0.sub (fun w13 b14 hb15 s16 ob17 => ?_)
 have ne18 : b1 ≠ b14 := ob5.ne_new hb15
 have g19 : w0.heap.size ≤ b14 := by rw [hb15]; exact S0.size
 have S20 := S0.trans0 s16
 refine Wa rfl rfl <| Z7 <| Z5 <| Z04 (fun E w47 => ∃ (h46 : Hp) (x50 : Int) (x51 : Int), Z9z k (Zq k) x6 x9 x50 x51 = some r ∧ E = [(0, pt b1 0), (2, vi x9), (4, pt b14 0)] ∧ Stp [b1] w0 h0 w47 h46 ∧ Hle h0 h46 ∧ OB w47 h46 b1 T2 [vi x50, vi x51] ∧ OB w47 h46 b14 32 [vi x6.op, vi x6.kind, vi x6.n, .string x6.s, .string x6.f, v11]) ?_ ?_
 ·rintro E w47 ⟨h46, x50, x51, HF, rfl, S49, le48, ob52, ob53⟩
  refine Za <| Z0 <| Wa rfl rfl <| Wa rfl rfl <| Wa rfl rfl <| Z7 <| Z5 <| Z04 (fun E w96 => ∃ (h95 : Hp) (x99 : Bool) (x100 : Bool) (x101 : Int), Z2q k (Zq k) x6 x9 x50 x51 x99 x100 x101 = some r ∧ E = [(0, pt b1 0), (2, vi x9), (4, pt b14 0), (7, .bool x99), (8, .bool x100), (9, vi x101)] ∧ Stp [b1] w0 h0 w96 h95 ∧ Hle h46 h95 ∧ OB w96 h95 b1 T2 [vi x50, vi x51] ∧ OB w96 h95 b14 32 [vi x6.op, vi x6.kind, vi x6.n, .string x6.s, .string x6.f, v11]) ?_ ?_
  ·rintro E w96 ⟨h95, x99, x100, x101, HF, rfl, S98, le97, ob102, ob103⟩
   refine Za <| Z0 <| Wv rfl (Z2 rfl Z4y) <| Wv rfl (Z8 rfl Z3l (OB.cell ob103 (j := 3) rfl)) <| Wm rfl rfl ?_
   obtain ⟨r104, hr105, HF⟩ := Z6 HF
   refine Wc rfl (Zi (vs := [.string x6.s, .bool x99]) rfl t_ent_80) (Zey _ hr105 S98.sub) ?_
   rintro _ w107 ⟨h108, s109, rfl⟩
   have S110 := S98.trans0 s109
   refine Wm rfl rfl <| Z2m 61 HF rfl (fun HF => ?_) (fun HF => ?_)
   ·refine Wv rfl (Z2 rfl Zb7) ?_
    have ob112 := (ob103.step0 s109)
    refine Wv rfl (Z8 rfl Z3l (OB.cell ob112 (j := 4) rfl)) <| Wm rfl rfl ?_
    obtain ⟨r113, hr114, HF⟩ := Z6 HF
    refine Wc rfl (Zi (vs := [.string x6.f, .bool x100]) rfl t_ent_80) (Zey _ hr114 S110.sub) ?_
    rintro _ w116 ⟨h117, s118, rfl⟩
    have S119 := S110.trans0 s118
    refine Wv rfl (Zh rfl rfl) <| Wm rfl rfl <| Z2m 67 HF rfl (fun HF => ?_) (fun HF => ?_)
    ·refine Wv rfl (Z2 rfl Z0z) ?_
     have ob121 := (ob112.step0 s118)
     refine Wv rfl (Z8 rfl Z0h (OB.cell ob121 (j := 5) rfl)) ?_
     obtain ⟨A122, c123, rfl, rs124⟩ := RS.form (rs12.mono ((s16.le).trans ((le48).trans ((le97).trans ((s109.le).trans s118.le)))))
     refine Wv rfl (Z0v rfl Zx) <| Wm rfl rfl <| Wv rfl (Z0y rfl rfl) <| Wv rfl (Zh rfl rfl) <| Wm rfl rfl <| Z2m 74 HF rfl (fun HF => ?_) (fun HF => ?_)
     ·refine Wm rfl rfl <| Wv rfl (Z2 rfl Z0z) <| Wv rfl (Z8 rfl Z0h (OB.cell ob121 (j := 5) rfl)) <| Wm rfl rfl <| Wv rfl (Z2v rfl rfl) ?_
      have ob126 := ((ob102.step0 s109).step0 s118)
      obtain ⟨r127, hr128, HF⟩ := Z6 HF
      refine Wc rfl (Zi (vs := [pt b1 0, .slice A122 (x6.args).length c123, vi (IntKind.i64.wrap (x9 + 1))]) rfl t_ent_81) ((IH _ (Nat.le_refl _)).2 hr128 S119.sub rs124 ob126) ?_
      rintro _ w130 ⟨h131, s132, rfl, ob133⟩
      have S134 := S119.trans s132 (Zy (.inl (by simp)) Z0q)
      refine Wv rfl (Zh rfl rfl) <| Wa rfl rfl <| Z7 <| Z5 <| Z09 <| Zt rfl rfl ?_
      obtain rfl := Option.some.inj HF
      exact ⟨_, rfl, h131, S134, rfl, ob133⟩
     refine Wp rfl <| Wp rfl <| Wp rfl <| Wp rfl <| Wp rfl <| Wp rfl <| Wv rfl (Zf rfl rfl) <| Wa rfl rfl <| Z7 <| Z5 <| Z09 ?_
     have ob135 := ((ob102.step0 s109).step0 s118)
     refine Zt rfl rfl ?_
     obtain rfl := Option.some.inj HF
     exact ⟨_, rfl, h117, S119, rfl, ob135⟩
    refine Wp rfl <| Wp rfl <| Wp rfl <| Wp rfl <| Wp rfl <| Wv rfl (Zf rfl rfl) <| Wm rfl rfl <| Wp rfl <| Wp rfl <| Wp rfl <| Wp rfl <| Wp rfl <| Wp rfl <| Wv rfl (Zf rfl rfl) <| Wa rfl rfl <| Z7 <| Z5 <| Z09 ?_
    have ob136 := ((ob102.step0 s109).step0 s118)
    refine Zt rfl rfl ?_
    obtain rfl := Option.some.inj HF
    exact ⟨_, rfl, h117, S119, rfl, ob136⟩
   refine Wp rfl <| Wp rfl <| Wp rfl <| Wp rfl <| Wv rfl (Zf rfl rfl) <| Wm rfl rfl <| Wp rfl <| Wp rfl <| Wp rfl <| Wp rfl <| Wp rfl <| Wv rfl (Zf rfl rfl) <| Wm rfl rfl <| Wp rfl <| Wp rfl <| Wp rfl <| Wp rfl <| Wp rfl <| Wp rfl <| Wv rfl (Zf rfl rfl) <| Wa rfl rfl <| Z7 <| Z5 <| Z09 ?_
   have ob137 := (ob102.step0 s109)
   refine Zt rfl rfl ?_
   obtain rfl := Option.some.inj HF
   exact ⟨_, rfl, h108, S110, rfl, ob137⟩
  intro J138
  refine Za <| Z0 <| Wv rfl (Z2 rfl Z2d) <| Wv rfl (Z8 rfl Z0t (OB.cell ob53 (j := 0) rfl)) <| Z7 <| Z5 <| Z0c <| Za <| Z0 <| Wv rfl (Z0y rfl rfl) <| Wa rfl rfl <| Z7 <| Z5 <| Z12 HF rfl (fun HF => ?_) (fun HF => ?_)
  ·refine Za <| Z0 <| Wa rfl rfl <| Z7 <| Z5 <| Za <| Z0 <| Wv rfl (Z2 rfl Z88) <| Wv rfl (Z8 rfl Z0t (OB.cell ob53 (j := 1) rfl)) <| Wv rfl (Z2 rfl Z7y) <| Wv rfl (Z8 rfl Z0t (OB.cell ob53 (j := 2) rfl)) ?_
   obtain ⟨r55, hr56, HF⟩ := Z6 HF
   refine Wc rfl (Zi (vs := [vi x6.kind, vi x6.n]) rfl t_ent_33) (ok_ast_IsConst _ hr56 S49.sub) ?_
   rintro _ w58 ⟨h59, s60, rfl⟩
   have S61 := S49.trans0 s60
   refine Wv rfl (Z4o rfl) <| Z7 <| Z5 <| Z12 HF rfl (fun HF => ?_) (fun HF => ?_)
   ·refine Za <| Z0 <| Wa rfl rfl <| Z7 <| Z5 <| Z09 <| Z03 <| Zp ?_
    have ob63 := (ob52.step0 s60)
    refine Zt rfl rfl ?_
    obtain rfl := Option.some.inj HF
    exact ⟨_, rfl, h59, S61, rfl, ob63⟩
   refine Zm <| Zv ?_
   have ob139 := (ob52.step0 s60)
   have ob140 := (ob53.step0 s60)
   refine Z06 [0, 2, 4, 7, 8, 9] _ rfl ?_
   exact J138 ⟨h59, false, false, 0, HF, rfl, S61, s60.le, ob139, ob140⟩
  refine Za <| Z0 <| Wv rfl (Z0y rfl rfl) <| Wa rfl rfl <| Z7 <| Z5 <| Z12 HF rfl (fun HF => ?_) (fun HF => ?_)
  ·refine Z0 <| Wa rfl rfl <| Wa rfl rfl <| Z7 <| Zv <| Z06 [0, 2, 4, 7, 8, 9] _ rfl ?_
   exact J138 ⟨h46, true, false, 0, HF, rfl, S49, Hle.refl _, ob52, ob53⟩
  refine Za <| Z0 <| Wv rfl (Z0y rfl rfl) <| Wa rfl rfl <| Z7 <| Z5 <| Z12 HF rfl (fun HF => ?_) (fun HF => ?_)
  ·refine Z0 <| Wa rfl rfl <| Wa rfl rfl <| Wa rfl rfl <| Z7 <| Zv <| Z06 [0, 2, 4, 7, 8, 9] _ rfl ?_
   exact J138 ⟨h46, true, true, 0, HF, rfl, S49, Hle.refl _, ob52, ob53⟩
  refine Za <| Z0 <| Wv rfl (Z0y rfl rfl) <| Wa rfl rfl <| Z7 <| Z5 <| Z12 HF rfl (fun HF => ?_) (fun HF => ?_)
  ·refine Z0 <| Wa rfl rfl <| Wa rfl rfl <| Z7 <| Zv <| Z06 [0, 2, 4, 7, 8, 9] _ rfl ?_
   exact J138 ⟨h46, true, false, 1, HF, rfl, S49, Hle.refl _, ob52, ob53⟩
  refine Za <| Z0 <| Wv rfl (Z0y rfl rfl) <| Wa rfl rfl <| Z7 <| Z5 <| Z12 HF rfl (fun HF => ?_) (fun HF => ?_)
  ·obtain ⟨A68, c69, rfl, rs70⟩ := RS.form (rs12.mono ((s16.le).trans le48))
   refine Z2z (m := 4) [(0, pt b1 0), (2, vi x9), (4, pt b14 0), (8, .bool false), (9, vi 2)] [0, 2, 4, 8, 9] rfl (fun i v w h => match i with | 0 => v = pt b14 5 | 1 => v = .slice A68 (x6.args).length c69 | 2 => v = vi (x6.args.length : Int) | 3 => v = .bool true | _ => True) Z4c S49.sub rfl rfl rfl rfl rfl ?_ ?_ ?_
   ·intro i v w h w2 h2 hΦ hst
    match i, hΦ with
    | 0, hΦ | 1, hΦ | 2, hΦ | 3, hΦ => exact hΦ
    | i + 4, _ => exact trivial
   ·refine ⟨?_, ?_, ?_, ?_, trivial⟩
    ·intro a w71 h72 s73 hat hF
     exact Z4 hat rfl (Z2 rfl Z0z) s73.sub (by exact rfl)
    ·intro a w71 h72 s73 hat hF
     have ob74 := (ob53.step0 s73)
     exact Z4 (Z1 hat (hF 0 51 rfl rfl)) rfl (Z8 rfl Z0h (OB.cell ob74 (j := 5) rfl)) s73.sub (by exact rfl)
    ·intro a w71 h72 s73 hat hF
     exact Z4 (Z1 hat (hF 1 52 rfl rfl)) rfl (Z0v rfl Zx) s73.sub (by exact rfl)
    intro a w71 h72 s73 hat hF
    exact Z4 hat rfl (ov_assign rfl) s73.sub (by exact rfl)
   intro a w71 h72 s73 hat hF
   obtain hv0 := hF 0 51 (by decide) rfl
   obtain hv1 := hF 1 52 (by decide) rfl
   obtain hv2 := hF 2 53 (by decide) rfl
   obtain hv3 := hF 3 7 (by decide) rfl
   refine Z7u [(7, .bool true), (53, vi (x6.args.length : Int)), (52, .slice A68 (x6.args).length c69), (51, pt b14 5), (0, pt b1 0), (2, vi x9), (4, pt b14 0), (8, .bool false), (9, vi 2)] (Z1 (Z1 (Z1 (Z1 hat hv0) hv1) hv2) hv3) ?_
   have S75 := S49.trans0 s73
   refine Wa rfl rfl <| Z7 <| Zv ?_
   have ob141 := (ob52.step0 s73)
   have ob142 := (ob53.step0 s73)
   refine Z06 [0, 2, 4, 7, 8, 9] _ rfl ?_
   exact J138 ⟨h72, true, false, (x6.args.length : Int), HF, rfl, S75, s73.le, ob141, ob142⟩
  refine Z04 (fun E w78 => ∃ (h77 : Hp) (x81 : Bool), Z7n k (Zq k) x6 x9 x50 x51 x81 = some r ∧ E = [(0, pt b1 0), (2, vi x9), (4, pt b14 0), (7, .bool false), (8, .bool false), (9, vi 2), (54, .bool x81)] ∧ Stp [b1] w0 h0 w78 h77 ∧ Hle h46 h77 ∧ OB w78 h77 b1 T2 [vi x50, vi x51] ∧ OB w78 h77 b14 32 [vi x6.op, vi x6.kind, vi x6.n, .string x6.s, .string x6.f, v11]) ?_ ?_
  ·rintro E w78 ⟨h77, x81, HF, rfl, S80, le79, ob82, ob83⟩
   refine Z12 HF rfl (fun HF => ?_) (fun HF => ?_)
   ·refine Z0 <| Wa rfl rfl <| Z7 <| Zv <| Z06 [0, 2, 4, 7, 8, 9] _ rfl ?_
    exact J138 ⟨h77, false, false, 1, HF, rfl, S80, le79, ob82, ob83⟩
   refine Za <| Z0 <| Wv rfl (Z2 rfl Z2d) <| Wv rfl (Z8 rfl Z0t (OB.cell ob83 (j := 0) rfl)) ?_
   obtain ⟨r85, hr86, HF⟩ := Z6 HF
   refine Wc rfl (Zi (vs := [vi x6.op, vi 8, vi 21]) rfl t_ent_62) (Zbu _ hr86 S80.sub) ?_
   rintro _ w88 ⟨h89, s90, rfl⟩
   have S91 := S80.trans0 s90
   refine Wv rfl (Z4o rfl) <| Z7 <| Z5 <| Z12 HF rfl (fun HF => ?_) (fun HF => ?_)
   ·refine Za <| Z0 <| Wa rfl rfl <| Z7 <| Z5 <| Z09 <| Z03 <| Zp ?_
    have ob93 := (ob82.step0 s90)
    refine Zt rfl rfl ?_
    obtain rfl := Option.some.inj HF
    exact ⟨_, rfl, h89, S91, rfl, ob93⟩
   refine Zm <| Zv ?_
   have ob143 := (ob82.step0 s90)
   have ob144 := (ob83.step0 s90)
   refine Z06 [0, 2, 4, 7, 8, 9] _ rfl ?_
   exact J138 ⟨h89, false, false, 2, HF, rfl, S91, (le79).trans s90.le, ob143, ob144⟩
  intro J94
  refine Za <| Z0 <| Wv rfl (Z0y rfl rfl) <| Wa rfl rfl <| Z7 <| Z5 <| Z12 HF rfl (fun HF => ?_) (fun HF => ?_)
  ·refine Zm <| Z06 [0, 2, 4, 7, 8, 9, 54] _ rfl ?_
   exact J94 ⟨h46, (x6.op : Int) == 6, HF, rfl, S49, Hle.refl _, ob52, ob53⟩
  refine Z0 <| Wv rfl (Z0y rfl rfl) <| Wa rfl rfl <| Z7 <| Z06 [0, 2, 4, 7, 8, 9, 54] _ rfl ?_
  exact J94 ⟨h46, (x6.op : Int) == 7, HF, rfl, S49, Hle.refl _, ob52, ob53⟩
 intro J145
 refine Z04 (fun E w35 => ∃ (h34 : Hp) (x38 : Bool) (x39 : Int) (x40 : Int), Z4u k (Zq k) x6 x9 x38 x39 x40 = some r ∧ E = [(0, pt b1 0), (2, vi x9), (4, pt b14 0), (28, .bool x38)] ∧ Stp [b1] w0 h0 w35 h34 ∧ Hle h0 h34 ∧ OB w35 h34 b1 T2 [vi x39, vi x40] ∧ OB w35 h34 b14 32 [vi x6.op, vi x6.kind, vi x6.n, .string x6.s, .string x6.f, v11]) ?_ ?_
 ·rintro E w35 ⟨h34, x38, x39, x40, HF, rfl, S37, le36, ob41, ob42⟩
  refine Z12 HF rfl (fun HF => ?_) (fun HF => ?_)
  ·refine Za <| Z0 <| Wa rfl rfl <| Z7 <| Z5 <| Z09 <| Zp <| Zt rfl rfl ?_
   obtain rfl := Option.some.inj HF
   exact ⟨_, rfl, h34, S37, rfl, ob41⟩
  refine Zm <| Z06 [0, 2, 4] _ rfl ?_
  exact J145 ⟨h34, x39, x40, HF, rfl, S37, le36, ob41, ob42⟩
 intro J44
 refine Z0 <| Wm rfl rfl <| Wm rfl rfl ?_
 have ob21 := (ob5.step0 s16)
 obtain ⟨r22, hr23, HF⟩ := Z6 HF
 refine Wc rfl (Zi (vs := [pt b1 0, vi x9]) rfl t_ent_79) (Zaz _ hr23 S20.sub ob21) ?_
 rintro _ w25 ⟨h26, s27, rfl, ob28⟩
 have S29 := S20.trans s27 (Zy (.inl (by simp)) Z0q)
 refine Wv rfl (Z4o rfl) <| Wm rfl rfl <| Z2m 14 HF rfl (fun HF => ?_) (fun HF => ?_)
 ·refine Wp rfl <| Wp rfl <| Wp rfl <| Wp rfl <| Wp rfl <| Wp rfl <| Wp rfl <| Wp rfl <| Wp rfl <| Wp rfl <| Wp rfl <| Wp rfl <| Wp rfl <| Wv rfl (Zh rfl rfl) <| Z7 ?_
  have ob45 := (ob17.step1 s27 (Ne.symm ne18))
  refine Z06 [0, 2, 4, 28] _ rfl ?_
  exact J44 ⟨h26, true, r22.2.1, r22.2.2, HF, rfl, S29, s27.le, ob28, ob45⟩
 refine Wv rfl (Z2 rfl Z2d) ?_
 have ob31 := (ob17.step1 s27 (Ne.symm ne18))
 refine Wv rfl (Z8 rfl Z0t (OB.cell ob31 (j := 0) rfl)) <| Wv rfl (ov_neq rfl rfl) <| Wm rfl rfl <| Z2m 18 HF rfl (fun HF => ?_) (fun HF => ?_)
 ·refine Wv rfl (Z2 rfl Z88) <| Wv rfl (Z8 rfl Z0t (OB.cell ob31 (j := 1) rfl)) <| Wv rfl (ov_neq rfl rfl) <| Wm rfl rfl <| Z2m 22 HF rfl (fun HF => ?_) (fun HF => ?_)
  ·refine Wp rfl <| Wp rfl <| Wp rfl <| Wv rfl (Zh rfl rfl) <| Wv rfl (Zh rfl rfl) <| Wv rfl (Zf rfl rfl) <| Z7 <| Z06 [0, 2, 4, 28] _ rfl ?_
   exact J44 ⟨h26, true, r22.2.1, r22.2.2, HF, rfl, S29, s27.le, ob28, ob31⟩
  refine Wv rfl (Z2 rfl Z7y) <| Wv rfl (Z8 rfl Z0t (OB.cell ob31 (j := 2) rfl)) <| Wv rfl (ov_neq rfl rfl) <| Wv rfl (Zf rfl rfl) <| Wv rfl (Zh rfl rfl) <| Wv rfl (Zf rfl rfl) <| Z7 <| Z06 [0, 2, 4, 28] _ rfl ?_
  exact J44 ⟨h26, (x6.n : Int) != 0, r22.2.1, r22.2.2, HF, rfl, S29, s27.le, ob28, ob31⟩
 refine Wp rfl <| Wp rfl <| Wp rfl <| Wp rfl <| Wp rfl <| Wp rfl <| Wp rfl <| Wp rfl <| Wv rfl (Zf rfl rfl) <| Wv rfl (Zf rfl rfl) <| Z7 <| Z06 [0, 2, 4, 28] _ rfl ?_
 exact J44 ⟨h26, false, r22.2.1, r22.2.2, HF, rfl, S29, s27.le, ob28, ob31⟩
theorem s_ast_Counter_Exprs (k : Nat) (IH : ∀ j, j ≤ k → Z6c (Zq j).ast_Counter_Expr ∧ Z5x (Zq j).ast_Counter_Exprs) : Z5x (Zac k (Zq k)) := by
 intro x3 x4 xs6 x9 r HF w0 h0 b1 T2 v7 hs0 rs8 ob5
 have S0 : Stp [b1] w0 h0 w0 h0 := Stp.refl hs0 _
 have lt10 : b1 < w0.heap.size := OB.lt ob5
 refine Z66 (n := 21) Tryz.func81 rfl Tryz.ntmps81 rfl [(0, pt b1 0), (1, v7), (2, vi x9)] rfl <| Za <| Z0 <| Wa rfl rfl <| Z7 <| Z5 <| Za <| Za <| Z0 <| Wm rfl rfl ?_
 obtain ⟨A11, c12, rfl, rs13⟩ := RS.form rs8
 refine Wv rfl (Z0v rfl Zx) <| Wm rfl rfl <| Z7 <| Z5 <| Z0c <| Z4j <| Z8e [0, 2, 9, 10, 11] [(0, pt b1 0), (2, vi x9), (9, .slice A11 (xs6).length c12), (10, vi (xs6.length : Int)), (11, vi 0)] rfl <| Z4m (K := k) (fun j E w15 => ∃ (h14 : Hp) (x18 : Int) (x19 : Int) (x20 : Int), (Zq j).ast_Counter_Exprs_l1 xs6 x9 x18 x19 x20 = some r ∧ E = [(0, pt b1 0), (2, vi x9), (9, .slice A11 (xs6).length c12), (10, vi (xs6.length : Int)), (11, vi x18)] ∧ Stp [b1] w0 h0 w15 h14 ∧ Hle h0 h14 ∧ OB w15 h14 b1 T2 [vi x19, vi x20]) ?_ ?_ (j := k) (Nat.le_refl _) ?_
 ·rintro E w15 ⟨_, _, _, _, HF, _⟩; cases HF
 ·rintro j22 hj24 IHL23 E w15 ⟨h14, x18, x19, x20, HF, rfl, S17, le16, ob21⟩
  refine Za <| Z0 <| Wv rfl (Z6q rfl rfl) <| Z7 <| Z5 <| Z04 (fun E w27 => ∃ (h26 : Hp), Z6y j22 (Zq j22) xs6 x9 x18 x19 x20 = some r ∧ E = [(0, pt b1 0), (2, vi x9), (9, .slice A11 (xs6).length c12), (10, vi (xs6.length : Int)), (11, vi x18)] ∧ Stp [b1] w0 h0 w27 h26 ∧ Hle h14 h26 ∧ OB w27 h26 b1 T2 [vi x19, vi x20]) ?_ ?_
  ·rintro E w27 ⟨h26, HF, rfl, S29, le28, ob30⟩
   refine Za <| Z0c <| Za <| Z0 ?_
   obtain ⟨e31, he32, HF⟩ := Z6 HF
   obtain ⟨b33, o34, rfl, h36, h37, ra35⟩ := RS.atO (rs13.mono ((le16).trans le28)) he32
   obtain ⟨cs38, r39, hc40⟩ := ra35
   refine Wv rfl (Zk rfl rfl Zx Zu h36 h37) <| Wv rfl (Z0w (cs := cs38) rfl Z1u (by rw [Rp.len r39]; exact Zu) (fun j v hv => S29.sub.at_ _ _ _ (hc40 j v hv))) <| Za3 (zs := [vi 0, vi 0, vi 0, .string Z2c, .string Z2c, .slice none 0 0]) rfl rfl Zcd rfl S29.sub (fun w41 b42 hb43 s44 ob45 => ?_)
   have ne46 : b1 ≠ b42 := ob30.ne_new hb43
   have g47 : w0.heap.size ≤ b42 := by rw [hb43]; exact S29.size
   have S48 := S29.trans0 s44
   obtain ⟨v49, rfl, rs50⟩ := rp_Ex.1 (Rp.mono (s44.le) r39)
   refine Z5i (vs := [vi e31.op, vi e31.kind, vi e31.n, .string e31.s, .string e31.f, v49]) rfl rfl rfl rfl Zu (Z0d rfl (Z0d rfl (Z0d rfl (Z0d rfl (Z0d rfl (Z0d (RS.one rs50) Z76)))))) ob45 S48.sub (by simp) (ds := [vi e31.op, vi e31.kind, vi e31.n, .string e31.s, .string e31.f, v49]) rfl (fun w51 s52 ob53 => ?_)
   have S54 := S48.trans1 s52 (.inr g47)
   refine Z7 <| Z5 <| Za <| Z0 <| Wm rfl rfl <| Wv rfl (Z0w (cs := [vi e31.op, vi e31.kind, vi e31.n, .string e31.s, .string e31.f, v49]) rfl Z1u Zu (OB.cells ob53 0 rfl)) <| Wm rfl rfl ?_
   have ob55 := ((ob30.step0 s44).step1 s52 ne46)
   obtain ⟨r56, hr57, HF⟩ := Z6 HF
   refine Wc rfl (Zi (vs := [pt b1 0, .agg #[vi e31.op, vi e31.kind, vi e31.n, .string e31.s, .string e31.f, v49], vi x9]) rfl t_ent_54) ((IH _ (Nat.le_trans (Nat.le_of_succ_le hj24) (Nat.le_refl _))).1 hr57 S54.sub (rp_Ex.2 ⟨_, rfl, (rs50.mono (s52.le))⟩) ob55) ?_
   rintro _ w59 ⟨h60, s61, rfl, ob62⟩
   have S63 := S54.trans s61 (Zy (.inl (by simp)) Z0q)
   refine Wv rfl (Z4o rfl) <| Z7 <| Z5 <| Z12 HF rfl (fun HF => ?_) (fun HF => ?_)
   ·refine Za <| Z0 <| Wa rfl rfl <| Z7 <| Z5 <| Z09 <| Z03 <| Zp <| Zp <| Z03 <| Zp <| Zt rfl rfl ?_
    obtain rfl := Option.some.inj HF
    exact ⟨_, rfl, h60, S63, rfl, ob62⟩
   refine Zm <| Zv <| Z5 <| Z0 <| Wv rfl (Z2v rfl rfl) <| Wm rfl rfl <| Z7 <| Z2x <| Z8e [0, 2, 9, 10, 11] [(0, pt b1 0), (2, vi x9), (9, sl b33 o34 (xs6).length c12), (10, vi (xs6.length : Int)), (11, vi (IntKind.i64.wrap (x18 + 1)))] rfl ?_
   exact IHL23 j22 (Nat.le_refl _) _ _ ⟨h60, IntKind.i64.wrap (x18 + 1), r56.2.1, r56.2.2, HF, rfl, S63, (le16).trans ((le28).trans ((s44.le).trans ((s52.le).trans s61.le))), ob62⟩
  intro J65
  refine Z12 HF rfl (fun HF => ?_) (fun HF => ?_)
  ·refine Zm <| Z06 [0, 2, 9, 10, 11] _ rfl ?_
   exact J65 ⟨h14, HF, rfl, S17, Hle.refl _, ob21⟩
  refine Z4b <| Zr <| Zr <| Z0x <| Z5 <| Za <| Z0 <| Wa rfl rfl <| Z7 <| Z5 <| Z09 <| Zt rfl rfl ?_
  obtain rfl := Option.some.inj HF
  exact ⟨_, rfl, h14, S17, rfl, ob21⟩
 exact ⟨h0, 0, x3, x4, HF, rfl, S0, Hle.refl _, ob5⟩
theorem Zd1 : ∀ k j, j ≤ k → Z6c (Zq j).ast_Counter_Expr ∧ Z5x (Zq j).ast_Counter_Exprs := by
  intro k
  induction k with
  | zero =>
    intro j hj
    obtain rfl : j = 0 := by omega
    exact ⟨(fun _ _ _ _ _ => by intro h; cases h), (fun _ _ _ _ _ => by intro h; cases h)⟩
  | succ k ih =>
    intro j hj
    by_cases h : j ≤ k
    · exact ih j h
    · obtain rfl : j = k + 1 := by omega
      exact ⟨s_ast_Counter_Expr k ih, s_ast_Counter_Exprs k ih⟩
theorem ok_ast_Counter_Expr (k : Nat) : Z6c (Z6l k) := (Zd1 k k (Nat.le_refl _)).1
theorem Z9d (k : Nat) : Z5x (Z1x k) := (Zd1 k k (Nat.le_refl _)).2

def Z5p (φ : Int → Int → Ar → Int → Int → Option (Bool × Int × Int)) : Prop := ∀ ⦃x3 : Int⦄ ⦃x4 : Int⦄ ⦃x6 : Ar⦄ ⦃x9 : Int⦄ ⦃x10 : Int⦄ ⦃r : Bool × Int × Int⦄, φ x3 x4 x6 x9 x10 = some r → ∀ ⦃w0 : World⦄ ⦃h0 : Hp⦄ ⦃b1 : Nat⦄ ⦃T2 : Nat⦄ ⦃cs7 : List Value⦄, Sub h0 w0 → Rp.R h0 x6 cs7 → OB w0 h0 b1 T2 [.int .i64 x3, .int .i64 x4] →
  Calls Tryz.prog 87 #[.pointer (some ⟨b1, 0, none⟩), .agg cs7.toArray, .int .i64 x9, .int .i64 x10] w0 fun e w1 => ∃ v, e = .returned v ∧ ∃ h1, Stp [b1] w0 h0 w1 h1 ∧ v = .bool r.1 ∧ (OB w1 h1 b1 T2 [.int .i64 r.2.1, .int .i64 r.2.2])
def Z5c (φ : Int → Int → (List St) → Int → Option (Bool × Int × Int)) : Prop := ∀ ⦃x3 : Int⦄ ⦃x4 : Int⦄ ⦃xs6 : List St⦄ ⦃x9 : Int⦄ ⦃r : Bool × Int × Int⦄, φ x3 x4 xs6 x9 = some r → ∀ ⦃w0 : World⦄ ⦃h0 : Hp⦄ ⦃b1 : Nat⦄ ⦃T2 : Nat⦄ ⦃v7 : Value⦄, Sub h0 w0 → RS h0 v7 xs6 → OB w0 h0 b1 T2 [.int .i64 x3, .int .i64 x4] →
  Calls Tryz.prog 38 #[.pointer (some ⟨b1, 0, none⟩), v7, .int .i64 x9] w0 fun e w1 => ∃ v, e = .returned v ∧ ∃ h1, Stp [b1] w0 h0 w1 h1 ∧ v = .bool r.1 ∧ (OB w1 h1 b1 T2 [.int .i64 r.2.1, .int .i64 r.2.2])
def Z5a (φ : Int → Int → St → Int → Option (Bool × Int × Int)) : Prop := ∀ ⦃x3 : Int⦄ ⦃x4 : Int⦄ ⦃x6 : St⦄ ⦃x9 : Int⦄ ⦃r : Bool × Int × Int⦄, φ x3 x4 x6 x9 = some r → ∀ ⦃w0 : World⦄ ⦃h0 : Hp⦄ ⦃b1 : Nat⦄ ⦃T2 : Nat⦄ ⦃cs7 : List Value⦄, Sub h0 w0 → Rp.R h0 x6 cs7 → OB w0 h0 b1 T2 [.int .i64 x3, .int .i64 x4] →
  Calls Tryz.prog 65 #[.pointer (some ⟨b1, 0, none⟩), .agg cs7.toArray, .int .i64 x9] w0 fun e w1 => ∃ v, e = .returned v ∧ ∃ h1, Stp [b1] w0 h0 w1 h1 ∧ v = .bool r.1 ∧ (OB w1 h1 b1 T2 [.int .i64 r.2.1, .int .i64 r.2.2])
theorem s_ast_Counter_arm (k : Nat) (IH : ∀ j, j ≤ k → Z5p (Zg j).ast_Counter_arm ∧ Z5c (Zg j).ast_Counter_Text ∧ Z5a (Zg j).ast_Counter_stmt) : Z5p (Z77 k (Zg k)) := by
 intro x3 x4 x6 x9 x10 r HF w0 h0 b1 T2 cs7 hs0 r8 ob5
 have S0 : Stp [b1] w0 h0 w0 h0 := Stp.refl hs0 _
 have lt11 : b1 < w0.heap.size := OB.lt ob5
 refine Z66 (n := 62) Tryz.func87 rfl Tryz.ntmps87 rfl [(0, pt b1 0), (1, .agg cs7.toArray), (2, vi x9), (3, vi x10)] rfl <| Za <| Z0 ?_
 obtain ⟨v12, v14, v16, rfl, rs13, rs15, rs17⟩ := rp_Ar.1 r8
 refine Zd2 (cs := [v12, v14, v16]) rfl rfl rfl rfl S0.sub (fun w18 b19 hb20 s21 ob22 => ?_)
 have ne23 : b1 ≠ b19 := ob5.ne_new hb20
 have g24 : w0.heap.size ≤ b19 := by rw [hb20]; exact S0.size
 have S25 := S0.trans0 s21
 refine Wa rfl rfl <| Z7 <| Z5 <| Z04 (fun E w59 => ∃ (h58 : Hp) (x62 : Int) (x63 : Int), Zb1 k (Zg k) x6 x9 x10 x62 x63 = some r ∧ E = [(0, pt b1 0), (2, vi x9), (3, vi x10), (5, pt b19 0)] ∧ Stp [b1] w0 h0 w59 h58 ∧ Hle h0 h58 ∧ OB w59 h58 b1 T2 [vi x62, vi x63] ∧ OB w59 h58 b19 47 [v12, v14, v16]) ?_ ?_
 ·rintro E w59 ⟨h58, x62, x63, HF, rfl, S61, le60, ob64, ob65⟩
  refine Z04 (fun E w95 => ∃ (h94 : Hp), Z59 k (Zg k) x6 x10 x62 x63 = some r ∧ E = [(0, pt b1 0), (3, vi x10), (5, pt b19 0)] ∧ Stp [b1] w0 h0 w95 h94 ∧ Hle h58 h94 ∧ OB w95 h94 b1 T2 [vi x62, vi x63] ∧ OB w95 h94 b19 47 [v12, v14, v16]) ?_ ?_
  ·rintro E w95 ⟨h94, HF, rfl, S97, le96, ob98, ob99⟩
   refine Za <| Z0 <| Wm rfl rfl <| Wv rfl (Z2 rfl Z50) <| Wv rfl (Z8 rfl Z0h (OB.cell ob99 (j := 0) rfl)) <| Wm rfl rfl <| Wv rfl (Z2v rfl rfl) ?_
   obtain ⟨r100, hr101, HF⟩ := Z6 HF
   refine Wc rfl (Zi (vs := [pt b1 0, v12, vi (IntKind.i64.wrap (x10 + 1))]) rfl t_ent_81) (Z9d _ hr101 S97.sub (rs13.mono ((s21.le).trans ((le60).trans le96))) ob98) ?_
   rintro _ w103 ⟨h104, s105, rfl, ob106⟩
   have S107 := S97.trans s105 (Zy (.inl (by simp)) Z0q)
   refine Wm rfl rfl <| Z2m 54 HF rfl (fun HF => ?_) (fun HF => ?_)
   ·refine Wm rfl rfl <| Wv rfl (Z2 rfl Z99) ?_
    have ob109 := (ob99.step1 s105 (Ne.symm ne23))
    refine Wv rfl (Z8 rfl Z2r (OB.cell ob109 (j := 2) rfl)) <| Wm rfl rfl <| Wv rfl (Z2v rfl rfl) ?_
    obtain ⟨r110, hr111, HF⟩ := Z6 HF
    refine Wc rfl (Zi (vs := [pt b1 0, v16, vi (IntKind.i64.wrap (x10 + 1))]) rfl t_ent_38) ((IH _ (Nat.le_refl _)).2.1 hr111 S107.sub (rs17.mono ((s21.le).trans ((le60).trans ((le96).trans s105.le)))) ob106) ?_
    rintro _ w113 ⟨h114, s115, rfl, ob116⟩
    have S117 := S107.trans s115 (Zy (.inl (by simp)) Z0q)
    refine Wv rfl (Zh rfl rfl) <| Wa rfl rfl <| Z7 <| Z5 <| Z09 <| Zt rfl rfl ?_
    obtain rfl := Option.some.inj HF
    exact ⟨_, rfl, h114, S117, rfl, ob116⟩
   refine Wp rfl <| Wp rfl <| Wp rfl <| Wp rfl <| Wp rfl <| Wp rfl <| Wv rfl (Zf rfl rfl) <| Wa rfl rfl <| Z7 <| Z5 <| Z09 <| Zt rfl rfl ?_
   obtain rfl := Option.some.inj HF
   exact ⟨_, rfl, h104, S107, rfl, ob106⟩
  intro J118
  refine Z04 (fun E w86 => ∃ (h85 : Hp) (x89 : Bool), Z2h k (Zg k) x6 x10 x62 x63 x89 = some r ∧ E = [(0, pt b1 0), (3, vi x10), (5, pt b19 0), (47, .bool x89)] ∧ Stp [b1] w0 h0 w86 h85 ∧ Hle h58 h85 ∧ OB w86 h85 b1 T2 [vi x62, vi x63] ∧ OB w86 h85 b19 47 [v12, v14, v16]) ?_ ?_
  ·rintro E w86 ⟨h85, x89, HF, rfl, S88, le87, ob90, ob91⟩
   refine Z12 HF rfl (fun HF => ?_) (fun HF => ?_)
   ·refine Za <| Z0 <| Wa rfl rfl <| Z7 <| Z5 <| Z09 <| Zp <| Zt rfl rfl ?_
    obtain rfl := Option.some.inj HF
    exact ⟨_, rfl, h85, S88, rfl, ob90⟩
   refine Zm <| Z06 [0, 3, 5] _ rfl ?_
   exact J118 ⟨h85, HF, rfl, S88, le87, ob90, ob91⟩
  intro J93
  refine Z0 <| Wm rfl rfl <| Wv rfl (Z0y rfl rfl) <| Wm rfl rfl <| Z2m 20 HF rfl (fun HF => ?_) (fun HF => ?_)
  ·refine Wv rfl (Z2 rfl Z50) <| Wv rfl (Z8 rfl Z0h (OB.cell ob65 (j := 0) rfl)) ?_
   obtain ⟨A67, c68, rfl, rs69⟩ := RS.form (rs13.mono ((s21.le).trans le60))
   refine Wv rfl (Z0v rfl Zx) <| Wv rfl (ov_neq rfl rfl) <| Wm rfl rfl <| Z2m 25 HF rfl (fun HF => ?_) (fun HF => ?_)
   ·refine Wp rfl <| Wp rfl <| Wp rfl <| Wp rfl <| Wv rfl (Zh rfl rfl) <| Wv rfl (Zh rfl rfl) <| Wm rfl rfl <| Wp rfl <| Wp rfl <| Wp rfl <| Wp rfl <| Wp rfl <| Wp rfl <| Wp rfl <| Wp rfl <| Wp rfl <| Wp rfl <| Wp rfl <| Wp rfl <| Wp rfl <| Wp rfl <| Wv rfl (Zh rfl rfl) <| Z7 <| Z06 [0, 3, 5, 47] _ rfl ?_
    exact J93 ⟨h58, true, HF, rfl, S61, Hle.refl _, ob64, ob65⟩
   refine Wv rfl (Z2 rfl Z49) <| Wv rfl (Z8 rfl Z9g (OB.cell ob65 (j := 1) rfl)) ?_
   obtain ⟨A71, c72, rfl, rs73⟩ := RS.form (rs15.mono ((s21.le).trans le60))
   refine Wv rfl (Z0v rfl Z43) <| Wv rfl (Zao rfl rfl) <| Wv rfl (Zf rfl rfl) <| Wv rfl (Zh rfl rfl) <| Wm rfl rfl <| Z2m 32 HF rfl (fun HF => ?_) (fun HF => ?_)
   ·refine Wp rfl <| Wp rfl <| Wp rfl <| Wp rfl <| Wp rfl <| Wp rfl <| Wp rfl <| Wp rfl <| Wp rfl <| Wp rfl <| Wp rfl <| Wp rfl <| Wp rfl <| Wp rfl <| Wv rfl (Zh rfl rfl) <| Z7 <| Z06 [0, 3, 5, 47] _ rfl ?_
    exact J93 ⟨h58, true, HF, rfl, S61, Hle.refl _, ob64, ob65⟩
   refine Wm rfl rfl <| Wv rfl (Z0y rfl rfl) <| Wm rfl rfl <| Z2m 35 HF rfl (fun HF => ?_) (fun HF => ?_)
   ·refine Wv rfl (Z2 rfl Z50) <| Wv rfl (Z8 rfl Z0h (OB.cell ob65 (j := 0) rfl)) <| Wv rfl (Z0v rfl Zx) <| Wv rfl (Zao rfl rfl) <| Wm rfl rfl <| Z2m 40 HF rfl (fun HF => ?_) (fun HF => ?_)
    ·refine Wp rfl <| Wp rfl <| Wp rfl <| Wp rfl <| Wv rfl (Zh rfl rfl) <| Wv rfl (Zh rfl rfl) <| Wv rfl (Zf rfl rfl) <| Z7 <| Z06 [0, 3, 5, 47] _ rfl ?_
     exact J93 ⟨h58, true, HF, rfl, S61, Hle.refl _, ob64, ob65⟩
    refine Wv rfl (Z2 rfl Z49) <| Wv rfl (Z8 rfl Z9g (OB.cell ob65 (j := 1) rfl)) <| Wv rfl (Z0v rfl Z43) <| Wv rfl (Z0y rfl rfl) <| Wv rfl (Zf rfl rfl) <| Wv rfl (Zh rfl rfl) <| Wv rfl (Zf rfl rfl) <| Z7 <| Z06 [0, 3, 5, 47] _ rfl ?_
    exact J93 ⟨h58, ((x6.labels.length : Int) : Int) == 0, HF, rfl, S61, Hle.refl _, ob64, ob65⟩
   refine Wp rfl <| Wp rfl <| Wp rfl <| Wp rfl <| Wp rfl <| Wp rfl <| Wp rfl <| Wp rfl <| Wp rfl <| Wp rfl <| Wv rfl (Zf rfl rfl) <| Wv rfl (Zf rfl rfl) <| Z7 <| Z06 [0, 3, 5, 47] _ rfl ?_
   exact J93 ⟨h58, false, HF, rfl, S61, Hle.refl _, ob64, ob65⟩
  refine Wp rfl <| Wp rfl <| Wp rfl <| Wp rfl <| Wp rfl <| Wp rfl <| Wp rfl <| Wp rfl <| Wp rfl <| Wp rfl <| Wv rfl (Zf rfl rfl) <| Wm rfl rfl <| Wm rfl rfl <| Wv rfl (Z0y rfl rfl) <| Wm rfl rfl <| Z2m 35 HF rfl (fun HF => ?_) (fun HF => ?_)
  ·refine Wv rfl (Z2 rfl Z50) <| Wv rfl (Z8 rfl Z0h (OB.cell ob65 (j := 0) rfl)) ?_
   obtain ⟨A78, c79, rfl, rs80⟩ := RS.form (rs13.mono ((s21.le).trans le60))
   refine Wv rfl (Z0v rfl Zx) <| Wv rfl (Zao rfl rfl) <| Wm rfl rfl <| Z2m 40 HF rfl (fun HF => ?_) (fun HF => ?_)
   ·refine Wp rfl <| Wp rfl <| Wp rfl <| Wp rfl <| Wv rfl (Zh rfl rfl) <| Wv rfl (Zh rfl rfl) <| Wv rfl (Zf rfl rfl) <| Z7 <| Z06 [0, 3, 5, 47] _ rfl ?_
    exact J93 ⟨h58, true, HF, rfl, S61, Hle.refl _, ob64, ob65⟩
   refine Wv rfl (Z2 rfl Z49) <| Wv rfl (Z8 rfl Z9g (OB.cell ob65 (j := 1) rfl)) ?_
   obtain ⟨A82, c83, rfl, rs84⟩ := RS.form (rs15.mono ((s21.le).trans le60))
   refine Wv rfl (Z0v rfl Z43) <| Wv rfl (Z0y rfl rfl) <| Wv rfl (Zf rfl rfl) <| Wv rfl (Zh rfl rfl) <| Wv rfl (Zf rfl rfl) <| Z7 <| Z06 [0, 3, 5, 47] _ rfl ?_
   exact J93 ⟨h58, ((x6.labels.length : Int) : Int) == 0, HF, rfl, S61, Hle.refl _, ob64, ob65⟩
  refine Wp rfl <| Wp rfl <| Wp rfl <| Wp rfl <| Wp rfl <| Wp rfl <| Wp rfl <| Wp rfl <| Wp rfl <| Wp rfl <| Wv rfl (Zf rfl rfl) <| Wv rfl (Zf rfl rfl) <| Z7 <| Z06 [0, 3, 5, 47] _ rfl ?_
  exact J93 ⟨h58, false, HF, rfl, S61, Hle.refl _, ob64, ob65⟩
 intro J119
 refine Z04 (fun E w45 => ∃ (h44 : Hp) (x48 : Bool) (x49 : Int) (x50 : Int), Z8o k (Zg k) x6 x9 x10 x48 x49 x50 = some r ∧ E = [(0, pt b1 0), (2, vi x9), (3, vi x10), (5, pt b19 0), (17, .bool x48)] ∧ Stp [b1] w0 h0 w45 h44 ∧ Hle h0 h44 ∧ OB w45 h44 b1 T2 [vi x49, vi x50] ∧ OB w45 h44 b19 47 [v12, v14, v16]) ?_ ?_
 ·rintro E w45 ⟨h44, x48, x49, x50, HF, rfl, S47, le46, ob51, ob52⟩
  refine Z12 HF rfl (fun HF => ?_) (fun HF => ?_)
  ·refine Za <| Z0 <| Wa rfl rfl <| Z7 <| Z5 <| Z09 <| Zp <| Zt rfl rfl ?_
   obtain rfl := Option.some.inj HF
   exact ⟨_, rfl, h44, S47, rfl, ob51⟩
  refine Zm <| Z06 [0, 2, 3, 5] _ rfl ?_
  exact J119 ⟨h44, x49, x50, HF, rfl, S47, le46, ob51, ob52⟩
 intro J54
 refine Z0 <| Wm rfl rfl <| Wm rfl rfl ?_
 have ob26 := (ob5.step0 s21)
 obtain ⟨r27, hr28, HF⟩ := Z6 HF
 refine Wc rfl (Zi (vs := [pt b1 0, vi x10]) rfl t_ent_79) (Zaz _ hr28 S25.sub ob26) ?_
 rintro _ w30 ⟨h31, s32, rfl, ob33⟩
 have S34 := S25.trans s32 (Zy (.inl (by simp)) Z0q)
 refine Wv rfl (Z4o rfl) <| Wm rfl rfl <| Z2m 13 HF rfl (fun HF => ?_) (fun HF => ?_)
 ·refine Wp rfl <| Wp rfl <| Wp rfl <| Wv rfl (Zh rfl rfl) <| Z7 ?_
  have ob55 := (ob22.step1 s32 (Ne.symm ne23))
  refine Z06 [0, 2, 3, 5, 17] _ rfl ?_
  exact J54 ⟨h31, true, r27.2.1, r27.2.2, HF, rfl, S34, s32.le, ob33, ob55⟩
 refine Wv rfl (Z2 rfl Z49) ?_
 have ob36 := (ob22.step1 s32 (Ne.symm ne23))
 refine Wv rfl (Z8 rfl Z9g (OB.cell ob36 (j := 1) rfl)) ?_
 obtain ⟨r37, hr38, HF⟩ := Z6 HF
 refine Wc rfl (Zi (vs := [v14, .func (.func 110) #[] #[]]) rfl t_ent_109) (Zbz _ hr38 S34.sub (rs15.mono ((s21.le).trans s32.le))) ?_
 rintro _ w40 ⟨h41, s42, rfl⟩
 have S43 := S34.trans0 s42
 refine Wv rfl (Zf rfl rfl) <| Z7 ?_
 have ob56 := (ob33.step0 s42)
 have ob57 := (ob36.step0 s42)
 refine Z06 [0, 2, 3, 5, 17] _ rfl ?_
 exact J54 ⟨h41, r37, r27.2.1, r27.2.2, HF, rfl, S43, (s32.le).trans s42.le, ob56, ob57⟩
theorem s_ast_Counter_Text (k : Nat) (IH : ∀ j, j ≤ k → Z5p (Zg j).ast_Counter_arm ∧ Z5c (Zg j).ast_Counter_Text ∧ Z5a (Zg j).ast_Counter_stmt) : Z5c (Zb5 k (Zg k)) := by
 intro x3 x4 xs6 x9 r HF w0 h0 b1 T2 v7 hs0 rs8 ob5
 have S0 : Stp [b1] w0 h0 w0 h0 := Stp.refl hs0 _
 have lt10 : b1 < w0.heap.size := OB.lt ob5
 refine Z66 (n := 21) Tryz.func38 rfl Tryz.ntmps38 rfl [(0, pt b1 0), (1, v7), (2, vi x9)] rfl <| Za <| Z0 <| Wa rfl rfl <| Z7 <| Z5 <| Za <| Za <| Z0 <| Wm rfl rfl ?_
 obtain ⟨A11, c12, rfl, rs13⟩ := RS.form rs8
 refine Wv rfl (Z0v rfl Z1e) <| Wm rfl rfl <| Z7 <| Z5 <| Z0c <| Z4j <| Z8e [0, 2, 9, 10, 11] [(0, pt b1 0), (2, vi x9), (9, .slice A11 (xs6).length c12), (10, vi (xs6.length : Int)), (11, vi 0)] rfl <| Z4m (K := k) (fun j E w15 => ∃ (h14 : Hp) (x18 : Int) (x19 : Int) (x20 : Int), (Zg j).ast_Counter_Text_l1 xs6 x9 x18 x19 x20 = some r ∧ E = [(0, pt b1 0), (2, vi x9), (9, .slice A11 (xs6).length c12), (10, vi (xs6.length : Int)), (11, vi x18)] ∧ Stp [b1] w0 h0 w15 h14 ∧ Hle h0 h14 ∧ OB w15 h14 b1 T2 [vi x19, vi x20]) ?_ ?_ (j := k) (Nat.le_refl _) ?_
 ·rintro E w15 ⟨_, _, _, _, HF, _⟩; cases HF
 ·rintro j22 hj24 IHL23 E w15 ⟨h14, x18, x19, x20, HF, rfl, S17, le16, ob21⟩
  refine Za <| Z0 <| Wv rfl (Z6q rfl rfl) <| Z7 <| Z5 <| Z04 (fun E w27 => ∃ (h26 : Hp), Zaj j22 (Zg j22) xs6 x9 x18 x19 x20 = some r ∧ E = [(0, pt b1 0), (2, vi x9), (9, .slice A11 (xs6).length c12), (10, vi (xs6.length : Int)), (11, vi x18)] ∧ Stp [b1] w0 h0 w27 h26 ∧ Hle h14 h26 ∧ OB w27 h26 b1 T2 [vi x19, vi x20]) ?_ ?_
  ·rintro E w27 ⟨h26, HF, rfl, S29, le28, ob30⟩
   refine Za <| Z0c <| Za <| Z0 ?_
   obtain ⟨e31, he32, HF⟩ := Z6 HF
   obtain ⟨b33, o34, rfl, h36, h37, ra35⟩ := RS.atO (rs13.mono ((le16).trans le28)) he32
   obtain ⟨cs38, r39, hc40⟩ := ra35
   refine Wv rfl (Zk rfl rfl Z1e Z2g h36 h37) <| Wv rfl (Z0w (cs := cs38) rfl Zb8 (by rw [Rp.len r39]; exact Z2g) (fun j v hv => S29.sub.at_ _ _ _ (hc40 j v hv))) <| Za3 (zs := [vi 0, .string Z2c, .slice none 0 0, .slice none 0 0, .slice none 0 0, vi 0, .slice none 0 0, .slice none 0 0, .slice none 0 0, .bool false]) rfl rfl t_zero_44 rfl S29.sub (fun w41 b42 hb43 s44 ob45 => ?_)
   have ne46 : b1 ≠ b42 := ob30.ne_new hb43
   have g47 : w0.heap.size ≤ b42 := by rw [hb43]; exact S29.size
   have S48 := S29.trans0 s44
   obtain ⟨v49, v51, v53, v55, v57, v59, rfl, rs50, rs52, rs54, rs56, rs58, rs60⟩ := rp_St.1 (Rp.mono (s44.le) r39)
   refine Z5i (vs := [vi e31.op, .string e31.name, v49, v51, v53, vi e31.n, v55, v57, v59, .bool e31.els]) rfl rfl rfl rfl Z2g (Z0d rfl (Z0d rfl (Z0d (RS.one rs50) (Z0d (RS.one rs52) (Z0d (RS.one rs54) (Z0d rfl (Z0d (RS.one rs56) (Z0d (RS.one rs58) (Z0d (RS.one rs60) (Z0d rfl Z76)))))))))) ob45 S48.sub (by simp) (ds := [vi e31.op, .string e31.name, v49, v51, v53, vi e31.n, v55, v57, v59, .bool e31.els]) rfl (fun w61 s62 ob63 => ?_)
   have S64 := S48.trans1 s62 (.inr g47)
   refine Z7 <| Z5 <| Za <| Z0 <| Wm rfl rfl <| Wv rfl (Z0w (cs := [vi e31.op, .string e31.name, v49, v51, v53, vi e31.n, v55, v57, v59, .bool e31.els]) rfl Zb8 Z2g (OB.cells ob63 0 rfl)) <| Wm rfl rfl ?_
   have ob65 := ((ob30.step0 s44).step1 s62 ne46)
   obtain ⟨r66, hr67, HF⟩ := Z6 HF
   refine Wc rfl (Zi (vs := [pt b1 0, .agg #[vi e31.op, .string e31.name, v49, v51, v53, vi e31.n, v55, v57, v59, .bool e31.els], vi x9]) rfl t_ent_65) ((IH _ (Nat.le_trans (Nat.le_of_succ_le hj24) (Nat.le_refl _))).2.2 hr67 S64.sub (rp_St.2 ⟨_, _, _, _, _, _, rfl, (rs50.mono (s62.le)), (rs52.mono (s62.le)), (rs54.mono (s62.le)), (rs56.mono (s62.le)), (rs58.mono (s62.le)), (rs60.mono (s62.le))⟩) ob65) ?_
   rintro _ w69 ⟨h70, s71, rfl, ob72⟩
   have S73 := S64.trans s71 (Zy (.inl (by simp)) Z0q)
   refine Wv rfl (Z4o rfl) <| Z7 <| Z5 <| Z12 HF rfl (fun HF => ?_) (fun HF => ?_)
   ·refine Za <| Z0 <| Wa rfl rfl <| Z7 <| Z5 <| Z09 <| Z03 <| Zp <| Zp <| Z03 <| Zp <| Zt rfl rfl ?_
    obtain rfl := Option.some.inj HF
    exact ⟨_, rfl, h70, S73, rfl, ob72⟩
   refine Zm <| Zv <| Z5 <| Z0 <| Wv rfl (Z2v rfl rfl) <| Wm rfl rfl <| Z7 <| Z2x <| Z8e [0, 2, 9, 10, 11] [(0, pt b1 0), (2, vi x9), (9, sl b33 o34 (xs6).length c12), (10, vi (xs6.length : Int)), (11, vi (IntKind.i64.wrap (x18 + 1)))] rfl ?_
   exact IHL23 j22 (Nat.le_refl _) _ _ ⟨h70, IntKind.i64.wrap (x18 + 1), r66.2.1, r66.2.2, HF, rfl, S73, (le16).trans ((le28).trans ((s44.le).trans ((s62.le).trans s71.le))), ob72⟩
  intro J75
  refine Z12 HF rfl (fun HF => ?_) (fun HF => ?_)
  ·refine Zm <| Z06 [0, 2, 9, 10, 11] _ rfl ?_
   exact J75 ⟨h14, HF, rfl, S17, Hle.refl _, ob21⟩
  refine Z4b <| Zr <| Zr <| Z0x <| Z5 <| Za <| Z0 <| Wa rfl rfl <| Z7 <| Z5 <| Z09 <| Zt rfl rfl ?_
  obtain rfl := Option.some.inj HF
  exact ⟨_, rfl, h14, S17, rfl, ob21⟩
 exact ⟨h0, 0, x3, x4, HF, rfl, S0, Hle.refl _, ob5⟩
theorem s_ast_Counter_stmt (k : Nat) (IH : ∀ j, j ≤ k → Z5p (Zg j).ast_Counter_arm ∧ Z5c (Zg j).ast_Counter_Text ∧ Z5a (Zg j).ast_Counter_stmt) : Z5a (Z46 k (Zg k)) := by
 intro x3 x4 x6 x9 r HF w0 h0 b1 T2 cs7 hs0 r8 ob5
 have S0 : Stp [b1] w0 h0 w0 h0 := Stp.refl hs0 _
 have lt10 : b1 < w0.heap.size := OB.lt ob5
 refine Z66 (n := 185) Tryz.func65 rfl Tryz.ntmps65 rfl [(0, pt b1 0), (1, .agg cs7.toArray), (2, vi x9)] rfl <| Za <| Z0 ?_
 obtain ⟨v11, v13, v15, v17, v19, v21, rfl, rs12, rs14, rs16, rs18, rs20, rs22⟩ := rp_St.1 r8
 refine Zd2 (cs := [vi x6.op, .string x6.name, v11, v13, v15, vi x6.n, v17, v19, v21, .bool x6.els]) rfl rfl rfl rfl S0.sub (fun w23 b24 hb25 s26 ob27 => ?_)
 have ne28 : b1 ≠ b24 := ob5.ne_new hb25
 have g29 : w0.heap.size ≤ b24 := by rw [hb25]; exact S0.size
 have S30 := S0.trans0 s26
 refine Wa rfl rfl <| Z7 <| Z5 <| Za <| Z0 ?_
 obtain ⟨v31, hv32, rm33⟩ := S30.sub.glob.g2
 refine Wv rfl (Z8 rfl t_agg_130 (S30.sub.at_ _ _ _ hv32)) <| Wv rfl (Z2 rfl Z1g) <| Wv rfl (Z8 rfl Z0t (OB.cell ob27 (j := 0) rfl)) ?_
 obtain ⟨r34, hr35, HF⟩ := Z6 HF
 replace hr35 := Option.some.inj hr35
 refine Wv rfl (ov_lookupI2 (evl := (fun x : Bool × Int × Int × Bool × Bool => .agg #[.bool x.1, vi x.2.1, vi x.2.2.1, .bool x.2.2.2.1, .bool x.2.2.2.2])) (z := (false, 0, 0, false, false)) rfl rfl t_map_130 Z9o t_zero_128 rm33 S30.sub hr35) <| Wm rfl rfl <| Wv rfl (Z1a rfl rfl) <| Wv rfl (Z1a rfl rfl) ?_
 have ob36 := (ob5.step0 s26)
 refine Za3 (zs := [.bool false, vi 0, vi 0, .bool false, .bool false]) rfl rfl t_zero_128 rfl S30.sub (fun w37 b38 hb39 s40 ob41 => ?_)
 have ne42 : b1 ≠ b38 := ob36.ne_new hb39
 have ne43 : b24 ≠ b38 := ob27.ne_new hb39
 have g44 : w0.heap.size ≤ b38 := by rw [hb39]; exact S30.size
 have S45 := S30.trans0 s40
 refine Z5i (vs := [.bool ((r34.getD (false, 0, 0, false, false)).1), vi ((r34.getD (false, 0, 0, false, false)).2.1), vi ((r34.getD (false, 0, 0, false, false)).2.2.1), .bool ((r34.getD (false, 0, 0, false, false)).2.2.2.1), .bool ((r34.getD (false, 0, 0, false, false)).2.2.2.2)]) rfl rfl rfl rfl t_size_128 (Z0d rfl (Z0d rfl (Z0d rfl (Z0d rfl (Z0d rfl Z76))))) ob41 S45.sub (by simp) (ds := [.bool ((r34.getD (false, 0, 0, false, false)).1), vi ((r34.getD (false, 0, 0, false, false)).2.1), vi ((r34.getD (false, 0, 0, false, false)).2.2.1), .bool ((r34.getD (false, 0, 0, false, false)).2.2.2.1), .bool ((r34.getD (false, 0, 0, false, false)).2.2.2.2)]) rfl (fun w46 s47 ob48 => ?_)
 have S49 := S45.trans1 s47 (.inr g44)
 refine Wa rfl rfl <| Z7 <| Z5 <| Z04 (fun E w106 => ∃ (h105 : Hp) (x109 : Int) (x110 : Int), Z7q k (Zg k) x6 x9 r34 x109 x110 = some r ∧ E = [(0, pt b1 0), (2, vi x9), (4, pt b24 0), (7, pt b38 0)] ∧ Stp [b1] w0 h0 w106 h105 ∧ Hle h0 h105 ∧ OB w106 h105 b1 T2 [vi x109, vi x110] ∧ OB w106 h105 b24 44 [vi x6.op, .string x6.name, v11, v13, v15, vi x6.n, v17, v19, v21, .bool x6.els] ∧ OB w106 h105 b38 128 [.bool ((r34.getD (false, 0, 0, false, false)).1), vi ((r34.getD (false, 0, 0, false, false)).2.1), vi ((r34.getD (false, 0, 0, false, false)).2.2.1), .bool ((r34.getD (false, 0, 0, false, false)).2.2.2.1), .bool ((r34.getD (false, 0, 0, false, false)).2.2.2.2)]) ?_ ?_
 ·rintro E w106 ⟨h105, x109, x110, HF, rfl, S108, le107, ob111, ob112, ob113⟩
  refine Z04 (fun E w153 => ∃ (h152 : Hp), Z4q k (Zg k) x6 x9 r34 x109 x110 = some r ∧ E = [(0, pt b1 0), (2, vi x9), (4, pt b24 0), (7, pt b38 0)] ∧ Stp [b1] w0 h0 w153 h152 ∧ Hle h105 h152 ∧ OB w153 h152 b1 T2 [vi x109, vi x110] ∧ OB w153 h152 b24 44 [vi x6.op, .string x6.name, v11, v13, v15, vi x6.n, v17, v19, v21, .bool x6.els] ∧ OB w153 h152 b38 128 [.bool ((r34.getD (false, 0, 0, false, false)).1), vi ((r34.getD (false, 0, 0, false, false)).2.1), vi ((r34.getD (false, 0, 0, false, false)).2.2.1), .bool ((r34.getD (false, 0, 0, false, false)).2.2.2.1), .bool ((r34.getD (false, 0, 0, false, false)).2.2.2.2)]) ?_ ?_
  ·rintro E w153 ⟨h152, HF, rfl, S155, le154, ob156, ob157, ob158⟩
   refine Z04 (fun E w199 => ∃ (h198 : Hp), Z4s k (Zg k) x6 x9 r34 x109 x110 = some r ∧ E = [(0, pt b1 0), (2, vi x9), (4, pt b24 0), (7, pt b38 0)] ∧ Stp [b1] w0 h0 w199 h198 ∧ Hle h152 h198 ∧ OB w199 h198 b1 T2 [vi x109, vi x110] ∧ OB w199 h198 b24 44 [vi x6.op, .string x6.name, v11, v13, v15, vi x6.n, v17, v19, v21, .bool x6.els] ∧ OB w199 h198 b38 128 [.bool ((r34.getD (false, 0, 0, false, false)).1), vi ((r34.getD (false, 0, 0, false, false)).2.1), vi ((r34.getD (false, 0, 0, false, false)).2.2.1), .bool ((r34.getD (false, 0, 0, false, false)).2.2.2.1), .bool ((r34.getD (false, 0, 0, false, false)).2.2.2.2)]) ?_ ?_
   ·rintro E w199 ⟨h198, HF, rfl, S201, le200, ob202, ob203, ob204⟩
    refine Z04 (fun E w248 => ∃ (h247 : Hp), Z4w k (Zg k) x6 x9 x109 x110 = some r ∧ E = [(0, pt b1 0), (2, vi x9), (4, pt b24 0)] ∧ Stp [b1] w0 h0 w248 h247 ∧ Hle h198 h247 ∧ OB w248 h247 b1 T2 [vi x109, vi x110] ∧ OB w248 h247 b24 44 [vi x6.op, .string x6.name, v11, v13, v15, vi x6.n, v17, v19, v21, .bool x6.els]) ?_ ?_
    ·rintro E w248 ⟨h247, HF, rfl, S250, le249, ob251, ob252⟩
     refine Za <| Za <| Z0 <| Wv rfl (Z2 rfl Z2e) <| Wv rfl (Z8 rfl Z6z (OB.cell ob252 (j := 7) rfl)) ?_
     obtain ⟨A253, c254, rfl, rs255⟩ := RS.form (rs20.mono ((s26.le).trans ((s40.le).trans ((s47.le).trans ((le107).trans ((le154).trans ((le200).trans le249)))))))
     refine Wv rfl (Z0v rfl Z32) <| Wm rfl rfl <| Z7 <| Z5 <| Z0c <| Z4j <| Z8e [0, 2, 4, 140, 141, 142] [(0, pt b1 0), (2, vi x9), (4, pt b24 0), (140, .slice A253 (x6.arms).length c254), (141, vi (x6.arms.length : Int)), (142, vi 0)] rfl <| Z4m (K := k) (fun j E w257 => ∃ (h256 : Hp) (x260 : Int) (x261 : Int) (x262 : Int) (xs264 : List Ar) (v265 : Value), (Zg j).ast_Counter_stmt_l9 x6 x9 x260 x261 x262 xs264 = some r ∧ E = [(0, pt b1 0), (2, vi x9), (4, pt b24 0), (140, .slice A253 (x6.arms).length c254), (141, vi (x6.arms.length : Int)), (142, vi x260)] ∧ Stp [b1] w0 h0 w257 h256 ∧ Hle h247 h256 ∧ RS h256 v265 xs264 ∧ OB w257 h256 b1 T2 [vi x261, vi x262] ∧ OB w257 h256 b24 44 [vi x6.op, .string x6.name, v11, v13, v15, vi x6.n, v17, v265, v21, .bool x6.els]) ?_ ?_ (j := k) (Nat.le_refl _) ?_
     ·rintro E w257 ⟨_, _, _, _, _, _, HF, _⟩; cases HF
     ·rintro j268 hj270 IHL269 E w257 ⟨h256, x260, x261, x262, xs264, v265, HF, rfl, S259, le258, rs266, ob263, ob267⟩
      refine Za <| Z0 <| Wv rfl (Z6q rfl rfl) <| Z7 <| Z5 <| Z04 (fun E w311 => ∃ (h310 : Hp), Z9b j268 (Zg j268) x6 x9 x260 x261 x262 xs264 = some r ∧ E = [(0, pt b1 0), (2, vi x9), (4, pt b24 0), (140, .slice A253 (x6.arms).length c254), (141, vi (x6.arms.length : Int)), (142, vi x260)] ∧ Stp [b1] w0 h0 w311 h310 ∧ Hle h256 h310 ∧ OB w311 h310 b1 T2 [vi x261, vi x262] ∧ OB w311 h310 b24 44 [vi x6.op, .string x6.name, v11, v13, v15, vi x6.n, v17, v265, v21, .bool x6.els]) ?_ ?_
      ·rintro E w311 ⟨h310, HF, rfl, S313, le312, ob314, ob315⟩
       refine Za <| Z0c <| Za <| Z0 ?_
       obtain ⟨e316, he317, HF⟩ := Z6 HF
       obtain ⟨b318, o319, rfl, h321, h322, ra320⟩ := RS.atO (rs255.mono ((le258).trans le312)) he317
       obtain ⟨cs323, r324, hc325⟩ := ra320
       refine Wv rfl (Zk rfl rfl Z32 Z56 h321 h322) <| Wv rfl (Z0w (cs := cs323) rfl t_agg_47 (by rw [Rp.len r324]; exact Z56) (fun j v hv => S313.sub.at_ _ _ _ (hc325 j v hv))) <| Za3 (zs := [.slice none 0 0, .slice none 0 0, .slice none 0 0]) rfl rfl t_zero_47 rfl S313.sub (fun w326 b327 hb328 s329 ob330 => ?_)
       have ne331 : b1 ≠ b327 := ob314.ne_new hb328
       have ne332 : b24 ≠ b327 := ob315.ne_new hb328
       have g333 : w0.heap.size ≤ b327 := by rw [hb328]; exact S313.size
       have S334 := S313.trans0 s329
       obtain ⟨v335, v337, v339, rfl, rs336, rs338, rs340⟩ := rp_Ar.1 (Rp.mono (s329.le) r324)
       refine Z5i (vs := [v335, v337, v339]) rfl rfl rfl rfl Z56 (Z0d (RS.one rs336) (Z0d (RS.one rs338) (Z0d (RS.one rs340) Z76))) ob330 S334.sub (by simp) (ds := [v335, v337, v339]) rfl (fun w341 s342 ob343 => ?_)
       have S344 := S334.trans1 s342 (.inr g333)
       refine Z7 <| Z5 <| Za <| Z0 <| Wm rfl rfl <| Wv rfl (Z0w (cs := [v335, v337, v339]) rfl t_agg_47 Z56 (OB.cells ob343 0 rfl)) <| Wv rfl (Z2 rfl Z1g) ?_
       have ob345 := ((ob315.step0 s329).step1 s342 ne332)
       refine Wv rfl (Z8 rfl Z0t (OB.cell ob345 (j := 0) rfl)) <| Wm rfl rfl <| Wv rfl (Z2v rfl rfl) ?_
       have ob346 := ((ob314.step0 s329).step1 s342 ne331)
       obtain ⟨r347, hr348, HF⟩ := Z6 HF
       refine Wc rfl (Zi (vs := [pt b1 0, .agg #[v335, v337, v339], vi x6.op, vi (IntKind.i64.wrap (x9 + 1))]) rfl t_ent_87) ((IH _ (Nat.le_trans (Nat.le_of_succ_le hj270) (Nat.le_refl _))).1 hr348 S344.sub (rp_Ar.2 ⟨_, _, _, rfl, (rs336.mono (s342.le)), (rs338.mono (s342.le)), (rs340.mono (s342.le))⟩) ob346) ?_
       rintro _ w350 ⟨h351, s352, rfl, ob353⟩
       have S354 := S344.trans s352 (Zy (.inl (by simp)) Z0q)
       refine Wv rfl (Z4o rfl) <| Z7 <| Z5 <| Z12 HF rfl (fun HF => ?_) (fun HF => ?_)
       ·refine Za <| Z0 <| Wa rfl rfl <| Z7 <| Z5 <| Z09 <| Z03 <| Zp <| Zp <| Z03 <| Zp <| Zt rfl rfl ?_
        obtain rfl := Option.some.inj HF
        exact ⟨_, rfl, h351, S354, rfl, ob353⟩
       refine Zm <| Zv <| Z5 <| Z0 <| Wv rfl (Z2v rfl rfl) <| Wm rfl rfl <| Z7 ?_
       have ob357 := (ob345.step1 s352 (Ne.symm ne28))
       refine Z2x <| Z8e [0, 2, 4, 140, 141, 142] [(0, pt b1 0), (2, vi x9), (4, pt b24 0), (140, sl b318 o319 (x6.arms).length c254), (141, vi (x6.arms.length : Int)), (142, vi (IntKind.i64.wrap (x260 + 1)))] rfl ?_
       exact IHL269 j268 (Nat.le_refl _) _ _ ⟨h351, IntKind.i64.wrap (x260 + 1), r347.2.1, r347.2.2, xs264, v265, HF, rfl, S354, (le258).trans ((le312).trans ((s329.le).trans ((s342.le).trans s352.le))), (rs266.mono ((le312).trans ((s329.le).trans ((s342.le).trans s352.le)))), ob353, ob357⟩
      intro J356
      refine Z12 HF rfl (fun HF => ?_) (fun HF => ?_)
      ·refine Zm <| Z06 [0, 2, 4, 140, 141, 142] _ rfl ?_
       exact J356 ⟨h256, HF, rfl, S259, Hle.refl _, ob263, ob267⟩
      refine Z4b <| Zr <| Zr <| Z0x <| Z5 <| Za <| Z0 <| Wm rfl rfl <| Wv rfl (Z2 rfl Z5h) <| Wv rfl (Z8 rfl Z0h (OB.cell ob267 (j := 2) rfl)) <| Wm rfl rfl <| Wv rfl (Z2v rfl rfl) ?_
      obtain ⟨r272, hr273, HF⟩ := Z6 HF
      refine Wc rfl (Zi (vs := [pt b1 0, v11, vi (IntKind.i64.wrap (x9 + 1))]) rfl t_ent_81) (Z9d _ hr273 S259.sub (rs12.mono ((s26.le).trans ((s40.le).trans ((s47.le).trans ((le107).trans ((le154).trans ((le200).trans ((le249).trans le258)))))))) ob263) ?_
      rintro _ w275 ⟨h276, s277, rfl, ob278⟩
      have S279 := S259.trans s277 (Zy (.inl (by simp)) Z0q)
      refine Wm rfl rfl <| Z2m 161 HF rfl (fun HF => ?_) (fun HF => ?_)
      ·refine Wm rfl rfl <| Wv rfl (Z2 rfl Z1f) ?_
       have ob281 := (ob267.step1 s277 (Ne.symm ne28))
       refine Wv rfl (Z8 rfl Z0h (OB.cell ob281 (j := 4) rfl)) <| Wm rfl rfl <| Wv rfl (Z2v rfl rfl) ?_
       obtain ⟨r282, hr283, HF⟩ := Z6 HF
       refine Wc rfl (Zi (vs := [pt b1 0, v15, vi (IntKind.i64.wrap (x9 + 1))]) rfl t_ent_81) (Z9d _ hr283 S279.sub (rs16.mono ((s26.le).trans ((s40.le).trans ((s47.le).trans ((le107).trans ((le154).trans ((le200).trans ((le249).trans ((le258).trans s277.le))))))))) ob278) ?_
       rintro _ w285 ⟨h286, s287, rfl, ob288⟩
       have S289 := S279.trans s287 (Zy (.inl (by simp)) Z0q)
       refine Wv rfl (Zh rfl rfl) <| Wm rfl rfl <| Z2m 169 HF rfl (fun HF => ?_) (fun HF => ?_)
       ·refine Wm rfl rfl <| Wv rfl (Z2 rfl Z48) ?_
        have ob291 := (ob281.step1 s287 (Ne.symm ne28))
        refine Wv rfl (Z8 rfl Z2r (OB.cell ob291 (j := 6) rfl)) <| Wm rfl rfl <| Wv rfl (Z2v rfl rfl) ?_
        obtain ⟨r292, hr293, HF⟩ := Z6 HF
        refine Wc rfl (Zi (vs := [pt b1 0, v17, vi (IntKind.i64.wrap (x9 + 1))]) rfl t_ent_38) ((IH _ (Nat.le_trans (Nat.le_of_succ_le hj270) (Nat.le_refl _))).2.1 hr293 S289.sub (rs18.mono ((s26.le).trans ((s40.le).trans ((s47.le).trans ((le107).trans ((le154).trans ((le200).trans ((le249).trans ((le258).trans ((s277.le).trans s287.le)))))))))) ob288) ?_
        rintro _ w295 ⟨h296, s297, rfl, ob298⟩
        have S299 := S289.trans s297 (Zy (.inl (by simp)) Z0q)
        refine Wv rfl (Zh rfl rfl) <| Wm rfl rfl <| Z2m 177 HF rfl (fun HF => ?_) (fun HF => ?_)
        ·refine Wm rfl rfl <| Wv rfl (Z2 rfl Z3f) ?_
         have ob301 := (ob291.step1 s297 (Ne.symm ne28))
         refine Wv rfl (Z8 rfl Z2r (OB.cell ob301 (j := 8) rfl)) <| Wm rfl rfl <| Wv rfl (Z2v rfl rfl) ?_
         obtain ⟨r302, hr303, HF⟩ := Z6 HF
         refine Wc rfl (Zi (vs := [pt b1 0, v21, vi (IntKind.i64.wrap (x9 + 1))]) rfl t_ent_38) ((IH _ (Nat.le_trans (Nat.le_of_succ_le hj270) (Nat.le_refl _))).2.1 hr303 S299.sub (rs22.mono ((s26.le).trans ((s40.le).trans ((s47.le).trans ((le107).trans ((le154).trans ((le200).trans ((le249).trans ((le258).trans ((s277.le).trans ((s287.le).trans s297.le))))))))))) ob298) ?_
         rintro _ w305 ⟨h306, s307, rfl, ob308⟩
         have S309 := S299.trans s307 (Zy (.inl (by simp)) Z0q)
         refine Wv rfl (Zh rfl rfl) <| Wa rfl rfl <| Z7 <| Z5 <| Z09 <| Zt rfl rfl ?_
         obtain rfl := Option.some.inj HF
         exact ⟨_, rfl, h306, S309, rfl, ob308⟩
        refine Wp rfl <| Wp rfl <| Wp rfl <| Wp rfl <| Wp rfl <| Wp rfl <| Wv rfl (Zf rfl rfl) <| Wa rfl rfl <| Z7 <| Z5 <| Z09 <| Zt rfl rfl ?_
        obtain rfl := Option.some.inj HF
        exact ⟨_, rfl, h296, S299, rfl, ob298⟩
       refine Wp rfl <| Wp rfl <| Wp rfl <| Wp rfl <| Wp rfl <| Wp rfl <| Wv rfl (Zf rfl rfl) <| Wm rfl rfl <| Wp rfl <| Wp rfl <| Wp rfl <| Wp rfl <| Wp rfl <| Wp rfl <| Wv rfl (Zf rfl rfl) <| Wa rfl rfl <| Z7 <| Z5 <| Z09 <| Zt rfl rfl ?_
       obtain rfl := Option.some.inj HF
       exact ⟨_, rfl, h286, S289, rfl, ob288⟩
      refine Wp rfl <| Wp rfl <| Wp rfl <| Wp rfl <| Wp rfl <| Wp rfl <| Wv rfl (Zf rfl rfl) <| Wm rfl rfl <| Wp rfl <| Wp rfl <| Wp rfl <| Wp rfl <| Wp rfl <| Wp rfl <| Wv rfl (Zf rfl rfl) <| Wm rfl rfl <| Wp rfl <| Wp rfl <| Wp rfl <| Wp rfl <| Wp rfl <| Wp rfl <| Wv rfl (Zf rfl rfl) <| Wa rfl rfl <| Z7 <| Z5 <| Z09 <| Zt rfl rfl ?_
      obtain rfl := Option.some.inj HF
      exact ⟨_, rfl, h276, S279, rfl, ob278⟩
     exact ⟨h247, 0, x109, x110, x6.arms, .slice A253 (x6.arms).length c254, HF, rfl, S250, Hle.refl _, rs255, ob251, ob252⟩
    intro J358
    refine Z04 (fun E w239 => ∃ (h238 : Hp) (x242 : Bool), Z10 k (Zg k) x6 x9 x109 x110 x242 = some r ∧ E = [(0, pt b1 0), (2, vi x9), (4, pt b24 0), (138, .bool x242)] ∧ Stp [b1] w0 h0 w239 h238 ∧ Hle h198 h238 ∧ OB w239 h238 b1 T2 [vi x109, vi x110] ∧ OB w239 h238 b24 44 [vi x6.op, .string x6.name, v11, v13, v15, vi x6.n, v17, v19, v21, .bool x6.els]) ?_ ?_
    ·rintro E w239 ⟨h238, x242, HF, rfl, S241, le240, ob243, ob244⟩
     refine Z12 HF rfl (fun HF => ?_) (fun HF => ?_)
     ·refine Za <| Z0 <| Wa rfl rfl <| Z7 <| Z5 <| Z09 <| Zp <| Zt rfl rfl ?_
      obtain rfl := Option.some.inj HF
      exact ⟨_, rfl, h238, S241, rfl, ob243⟩
     refine Zm <| Z06 [0, 2, 4] _ rfl ?_
     exact J358 ⟨h238, HF, rfl, S241, le240, ob243, ob244⟩
    intro J246
    refine Z0 <| Wv rfl (Z2 rfl t_field_128_3) <| Wv rfl (Z8 rfl Z65 (OB.cell ob204 (j := 3) rfl)) <| Wv rfl (Z4o rfl) <| Wm rfl rfl <| Z2m 107 HF rfl (fun HF => ?_) (fun HF => ?_)
    ·refine Wv rfl (Z2 rfl Z48) <| Wv rfl (Z8 rfl Z2r (OB.cell ob203 (j := 6) rfl)) ?_
     obtain ⟨A206, c207, rfl, rs208⟩ := RS.form (rs18.mono ((s26.le).trans ((s40.le).trans ((s47.le).trans ((le107).trans ((le154).trans le200))))))
     refine Wv rfl (Z0v rfl Z1e) <| Wv rfl (Zao rfl rfl) <| Wv rfl (Zh rfl rfl) <| Wm rfl rfl <| Z2m 113 HF rfl (fun HF => ?_) (fun HF => ?_)
     ·refine Wp rfl <| Wp rfl <| Wp rfl <| Wp rfl <| Wp rfl <| Wp rfl <| Wp rfl <| Wp rfl <| Wp rfl <| Wp rfl <| Wp rfl <| Wp rfl <| Wp rfl <| Wv rfl (Zh rfl rfl) <| Wm rfl rfl <| Wp rfl <| Wp rfl <| Wp rfl <| Wp rfl <| Wp rfl <| Wp rfl <| Wp rfl <| Wp rfl <| Wp rfl <| Wv rfl (Zh rfl rfl) <| Z7 <| Z06 [0, 2, 4, 138] _ rfl ?_
      exact J246 ⟨h198, true, HF, rfl, S201, Hle.refl _, ob202, ob203⟩
     refine Wv rfl (Z2 rfl t_field_128_4) <| Wv rfl (Z8 rfl Z65 (OB.cell ob204 (j := 4) rfl)) <| Wv rfl (Z4o rfl) <| Wm rfl rfl <| Z2m 117 HF rfl (fun HF => ?_) (fun HF => ?_)
     ·refine Wv rfl (Z2 rfl Z2e) <| Wv rfl (Z8 rfl Z6z (OB.cell ob203 (j := 7) rfl)) ?_
      obtain ⟨A211, c212, rfl, rs213⟩ := RS.form (rs20.mono ((s26.le).trans ((s40.le).trans ((s47.le).trans ((le107).trans ((le154).trans le200))))))
      refine Wv rfl (Z0v rfl Z32) <| Wv rfl (Zao rfl rfl) <| Wm rfl rfl <| Z2m 122 HF rfl (fun HF => ?_) (fun HF => ?_)
      ·refine Wp rfl <| Wp rfl <| Wv rfl (Zh rfl rfl) <| Wv rfl (Zh rfl rfl) <| Wv rfl (Zf rfl rfl) <| Wm rfl rfl <| Wp rfl <| Wp rfl <| Wp rfl <| Wp rfl <| Wp rfl <| Wp rfl <| Wp rfl <| Wp rfl <| Wp rfl <| Wv rfl (Zh rfl rfl) <| Z7 <| Z06 [0, 2, 4, 138] _ rfl ?_
       exact J246 ⟨h198, true, HF, rfl, S201, Hle.refl _, ob202, ob203⟩
      refine Wv rfl (Z2 rfl Z33) <| Wv rfl (Z8 rfl Z65 (OB.cell ob203 (j := 9) rfl)) <| Wv rfl (Zf rfl rfl) <| Wv rfl (Zh rfl rfl) <| Wv rfl (Zf rfl rfl) <| Wm rfl rfl <| Z2m 128 HF rfl (fun HF => ?_) (fun HF => ?_)
      ·refine Wp rfl <| Wp rfl <| Wp rfl <| Wp rfl <| Wp rfl <| Wp rfl <| Wp rfl <| Wp rfl <| Wp rfl <| Wv rfl (Zh rfl rfl) <| Z7 <| Z06 [0, 2, 4, 138] _ rfl ?_
       exact J246 ⟨h198, true, HF, rfl, S201, Hle.refl _, ob202, ob203⟩
      refine Wv rfl (Z2 rfl Z33) <| Wv rfl (Z8 rfl Z65 (OB.cell ob203 (j := 9) rfl)) <| Wv rfl (Z4o rfl) <| Wm rfl rfl <| Z2m 132 HF rfl (fun HF => ?_) (fun HF => ?_)
      ·refine Wv rfl (Z2 rfl Z3f) <| Wv rfl (Z8 rfl Z2r (OB.cell ob203 (j := 8) rfl)) ?_
       obtain ⟨A217, c218, rfl, rs219⟩ := RS.form (rs22.mono ((s26.le).trans ((s40.le).trans ((s47.le).trans ((le107).trans ((le154).trans le200))))))
       refine Wv rfl (Z0v rfl Z1e) <| Wv rfl (Zao rfl rfl) <| Wv rfl (Zh rfl rfl) <| Wv rfl (Zf rfl rfl) <| Z7 <| Z06 [0, 2, 4, 138] _ rfl ?_
       exact J246 ⟨h198, decide ((0 : Int) < (x6.other.length : Int)), HF, rfl, S201, Hle.refl _, ob202, ob203⟩
      refine Wp rfl <| Wp rfl <| Wp rfl <| Wp rfl <| Wv rfl (Zf rfl rfl) <| Wv rfl (Zf rfl rfl) <| Z7 <| Z06 [0, 2, 4, 138] _ rfl ?_
      exact J246 ⟨h198, false, HF, rfl, S201, Hle.refl _, ob202, ob203⟩
     refine Wp rfl <| Wp rfl <| Wp rfl <| Wp rfl <| Wp rfl <| Wp rfl <| Wp rfl <| Wp rfl <| Wv rfl (Zf rfl rfl) <| Wv rfl (Zf rfl rfl) <| Wm rfl rfl <| Wv rfl (Z2 rfl Z33) <| Wv rfl (Z8 rfl Z65 (OB.cell ob203 (j := 9) rfl)) <| Wv rfl (Z4o rfl) <| Wm rfl rfl <| Z2m 132 HF rfl (fun HF => ?_) (fun HF => ?_)
     ·refine Wv rfl (Z2 rfl Z3f) <| Wv rfl (Z8 rfl Z2r (OB.cell ob203 (j := 8) rfl)) ?_
      obtain ⟨A221, c222, rfl, rs223⟩ := RS.form (rs22.mono ((s26.le).trans ((s40.le).trans ((s47.le).trans ((le107).trans ((le154).trans le200))))))
      refine Wv rfl (Z0v rfl Z1e) <| Wv rfl (Zao rfl rfl) <| Wv rfl (Zh rfl rfl) <| Wv rfl (Zf rfl rfl) <| Z7 <| Z06 [0, 2, 4, 138] _ rfl ?_
      exact J246 ⟨h198, decide ((0 : Int) < (x6.other.length : Int)), HF, rfl, S201, Hle.refl _, ob202, ob203⟩
     refine Wp rfl <| Wp rfl <| Wp rfl <| Wp rfl <| Wv rfl (Zf rfl rfl) <| Wv rfl (Zf rfl rfl) <| Z7 <| Z06 [0, 2, 4, 138] _ rfl ?_
     exact J246 ⟨h198, false, HF, rfl, S201, Hle.refl _, ob202, ob203⟩
    refine Wp rfl <| Wp rfl <| Wp rfl <| Wp rfl <| Wv rfl (Zf rfl rfl) <| Wm rfl rfl <| Wv rfl (Z2 rfl t_field_128_4) <| Wv rfl (Z8 rfl Z65 (OB.cell ob204 (j := 4) rfl)) <| Wv rfl (Z4o rfl) <| Wm rfl rfl <| Z2m 117 HF rfl (fun HF => ?_) (fun HF => ?_)
    ·refine Wv rfl (Z2 rfl Z2e) <| Wv rfl (Z8 rfl Z6z (OB.cell ob203 (j := 7) rfl)) ?_
     obtain ⟨A225, c226, rfl, rs227⟩ := RS.form (rs20.mono ((s26.le).trans ((s40.le).trans ((s47.le).trans ((le107).trans ((le154).trans le200))))))
     refine Wv rfl (Z0v rfl Z32) <| Wv rfl (Zao rfl rfl) <| Wm rfl rfl <| Z2m 122 HF rfl (fun HF => ?_) (fun HF => ?_)
     ·refine Wp rfl <| Wp rfl <| Wv rfl (Zh rfl rfl) <| Wv rfl (Zh rfl rfl) <| Wv rfl (Zf rfl rfl) <| Wm rfl rfl <| Wp rfl <| Wp rfl <| Wp rfl <| Wp rfl <| Wp rfl <| Wp rfl <| Wp rfl <| Wp rfl <| Wp rfl <| Wv rfl (Zh rfl rfl) <| Z7 <| Z06 [0, 2, 4, 138] _ rfl ?_
      exact J246 ⟨h198, true, HF, rfl, S201, Hle.refl _, ob202, ob203⟩
     refine Wv rfl (Z2 rfl Z33) <| Wv rfl (Z8 rfl Z65 (OB.cell ob203 (j := 9) rfl)) <| Wv rfl (Zf rfl rfl) <| Wv rfl (Zh rfl rfl) <| Wv rfl (Zf rfl rfl) <| Wm rfl rfl <| Z2m 128 HF rfl (fun HF => ?_) (fun HF => ?_)
     ·refine Wp rfl <| Wp rfl <| Wp rfl <| Wp rfl <| Wp rfl <| Wp rfl <| Wp rfl <| Wp rfl <| Wp rfl <| Wv rfl (Zh rfl rfl) <| Z7 <| Z06 [0, 2, 4, 138] _ rfl ?_
      exact J246 ⟨h198, true, HF, rfl, S201, Hle.refl _, ob202, ob203⟩
     refine Wv rfl (Z2 rfl Z33) <| Wv rfl (Z8 rfl Z65 (OB.cell ob203 (j := 9) rfl)) <| Wv rfl (Z4o rfl) <| Wm rfl rfl <| Z2m 132 HF rfl (fun HF => ?_) (fun HF => ?_)
     ·refine Wv rfl (Z2 rfl Z3f) <| Wv rfl (Z8 rfl Z2r (OB.cell ob203 (j := 8) rfl)) ?_
      obtain ⟨A231, c232, rfl, rs233⟩ := RS.form (rs22.mono ((s26.le).trans ((s40.le).trans ((s47.le).trans ((le107).trans ((le154).trans le200))))))
      refine Wv rfl (Z0v rfl Z1e) <| Wv rfl (Zao rfl rfl) <| Wv rfl (Zh rfl rfl) <| Wv rfl (Zf rfl rfl) <| Z7 <| Z06 [0, 2, 4, 138] _ rfl ?_
      exact J246 ⟨h198, decide ((0 : Int) < (x6.other.length : Int)), HF, rfl, S201, Hle.refl _, ob202, ob203⟩
     refine Wp rfl <| Wp rfl <| Wp rfl <| Wp rfl <| Wv rfl (Zf rfl rfl) <| Wv rfl (Zf rfl rfl) <| Z7 <| Z06 [0, 2, 4, 138] _ rfl ?_
     exact J246 ⟨h198, false, HF, rfl, S201, Hle.refl _, ob202, ob203⟩
    refine Wp rfl <| Wp rfl <| Wp rfl <| Wp rfl <| Wp rfl <| Wp rfl <| Wp rfl <| Wp rfl <| Wv rfl (Zf rfl rfl) <| Wv rfl (Zf rfl rfl) <| Wm rfl rfl <| Wv rfl (Z2 rfl Z33) <| Wv rfl (Z8 rfl Z65 (OB.cell ob203 (j := 9) rfl)) <| Wv rfl (Z4o rfl) <| Wm rfl rfl <| Z2m 132 HF rfl (fun HF => ?_) (fun HF => ?_)
    ·refine Wv rfl (Z2 rfl Z3f) <| Wv rfl (Z8 rfl Z2r (OB.cell ob203 (j := 8) rfl)) ?_
     obtain ⟨A235, c236, rfl, rs237⟩ := RS.form (rs22.mono ((s26.le).trans ((s40.le).trans ((s47.le).trans ((le107).trans ((le154).trans le200))))))
     refine Wv rfl (Z0v rfl Z1e) <| Wv rfl (Zao rfl rfl) <| Wv rfl (Zh rfl rfl) <| Wv rfl (Zf rfl rfl) <| Z7 <| Z06 [0, 2, 4, 138] _ rfl ?_
     exact J246 ⟨h198, decide ((0 : Int) < (x6.other.length : Int)), HF, rfl, S201, Hle.refl _, ob202, ob203⟩
    refine Wp rfl <| Wp rfl <| Wp rfl <| Wp rfl <| Wv rfl (Zf rfl rfl) <| Wv rfl (Zf rfl rfl) <| Z7 <| Z06 [0, 2, 4, 138] _ rfl ?_
    exact J246 ⟨h198, false, HF, rfl, S201, Hle.refl _, ob202, ob203⟩
   intro J359
   refine Z04 (fun E w182 => ∃ (h181 : Hp) (x185 : Bool), Z38 k (Zg k) x6 x9 r34 x109 x110 x185 = some r ∧ E = [(0, pt b1 0), (2, vi x9), (4, pt b24 0), (7, pt b38 0), (103, .bool x185)] ∧ Stp [b1] w0 h0 w182 h181 ∧ Hle h152 h181 ∧ OB w182 h181 b1 T2 [vi x109, vi x110] ∧ OB w182 h181 b24 44 [vi x6.op, .string x6.name, v11, v13, v15, vi x6.n, v17, v19, v21, .bool x6.els] ∧ OB w182 h181 b38 128 [.bool ((r34.getD (false, 0, 0, false, false)).1), vi ((r34.getD (false, 0, 0, false, false)).2.1), vi ((r34.getD (false, 0, 0, false, false)).2.2.1), .bool ((r34.getD (false, 0, 0, false, false)).2.2.2.1), .bool ((r34.getD (false, 0, 0, false, false)).2.2.2.2)]) ?_ ?_
   ·rintro E w182 ⟨h181, x185, HF, rfl, S184, le183, ob186, ob187, ob188⟩
    refine Z12 HF rfl (fun HF => ?_) (fun HF => ?_)
    ·refine Za <| Z0 <| Wa rfl rfl <| Z7 <| Z5 <| Z09 <| Zp <| Zt rfl rfl ?_
     obtain rfl := Option.some.inj HF
     exact ⟨_, rfl, h181, S184, rfl, ob186⟩
    refine Zm <| Z06 [0, 2, 4, 7] _ rfl ?_
    exact J359 ⟨h181, HF, rfl, S184, le183, ob186, ob187, ob188⟩
   intro J190
   refine Z0 <| Wv rfl (Z2 rfl Z1g) <| Wv rfl (Z8 rfl Z0t (OB.cell ob157 (j := 0) rfl)) <| Wv rfl (Z0y rfl rfl) <| Wm rfl rfl <| Z2m 78 HF rfl (fun HF => ?_) (fun HF => ?_)
   ·refine Wv rfl (Z2 rfl Z72) <| Wv rfl (Z8 rfl Zdl (OB.cell ob157 (j := 3) rfl)) ?_
    obtain ⟨A160, c161, rfl, rs162⟩ := RS.form (rs14.mono ((s26.le).trans ((s40.le).trans ((s47.le).trans ((le107).trans le154)))))
    refine Wv rfl (Z0v rfl Z26) <| Wv rfl (Z2 rfl Z1f) <| Wv rfl (Z8 rfl Z0h (OB.cell ob157 (j := 4) rfl)) ?_
    obtain ⟨A163, c164, rfl, rs165⟩ := RS.form (rs16.mono ((s26.le).trans ((s40.le).trans ((s47.le).trans ((le107).trans le154)))))
    refine Wv rfl (Z0v rfl Zx) <| Wv rfl (ov_neq rfl rfl) <| Wm rfl rfl <| Z2m 86 HF rfl (fun HF => ?_) (fun HF => ?_)
    ·refine Wp rfl <| Wp rfl <| Wp rfl <| Wp rfl <| Wv rfl (Zh rfl rfl) <| Wv rfl (Zh rfl rfl) <| Wm rfl rfl <| Wp rfl <| Wp rfl <| Wp rfl <| Wp rfl <| Wp rfl <| Wp rfl <| Wp rfl <| Wp rfl <| Wp rfl <| Wv rfl (Zh rfl rfl) <| Z7 <| Z06 [0, 2, 4, 7, 103] _ rfl ?_
     exact J190 ⟨h152, true, HF, rfl, S155, Hle.refl _, ob156, ob157, ob158⟩
    refine Wv rfl (Z2 rfl Z72) <| Wv rfl (Z8 rfl Zdl (OB.cell ob157 (j := 3) rfl)) ?_
    obtain ⟨r167, hr168, HF⟩ := Z6 HF
    refine Wc rfl (Zi (vs := [.slice A160 (x6.fields).length c161]) rfl t_ent_86) (ok_ast_AreNames _ hr168 S155.sub rs162) ?_
    rintro _ w170 ⟨h171, s172, rfl⟩
    have S173 := S155.trans0 s172
    refine Wv rfl (Z4o rfl) <| Wv rfl (Zf rfl rfl) <| Wv rfl (Zh rfl rfl) <| Wm rfl rfl <| Z2m 93 HF rfl (fun HF => ?_) (fun HF => ?_)
    ·refine Wp rfl <| Wp rfl <| Wp rfl <| Wp rfl <| Wp rfl <| Wp rfl <| Wp rfl <| Wp rfl <| Wp rfl <| Wv rfl (Zh rfl rfl) <| Z7 ?_
     have ob191 := (ob156.step0 s172)
     have ob192 := (ob157.step0 s172)
     have ob193 := (ob158.step0 s172)
     refine Z06 [0, 2, 4, 7, 103] _ rfl ?_
     exact J190 ⟨h171, true, HF, rfl, S173, s172.le, ob191, ob192, ob193⟩
    refine Wv rfl (Z2 rfl Z1g) ?_
    have ob175 := (ob157.step0 s172)
    refine Wv rfl (Z8 rfl Z0t (OB.cell ob175 (j := 0) rfl)) <| Wv rfl (ov_neq rfl rfl) <| Wm rfl rfl <| Z2m 97 HF rfl (fun HF => ?_) (fun HF => ?_)
    ·refine Wv rfl (Z2 rfl Z72) <| Wv rfl (Z8 rfl Zdl (OB.cell ob175 (j := 3) rfl)) <| Wv rfl (Z0v rfl Z26) <| Wv rfl (Zao rfl rfl) <| Wv rfl (Zh rfl rfl) <| Wv rfl (Zf rfl rfl) <| Z7 ?_
     have ob194 := (ob156.step0 s172)
     have ob195 := (ob158.step0 s172)
     refine Z06 [0, 2, 4, 7, 103] _ rfl ?_
     exact J190 ⟨h171, decide ((0 : Int) < (x6.fields.length : Int)), HF, rfl, S173, s172.le, ob194, ob175, ob195⟩
    refine Wp rfl <| Wp rfl <| Wp rfl <| Wp rfl <| Wv rfl (Zf rfl rfl) <| Wv rfl (Zf rfl rfl) <| Z7 ?_
    have ob196 := (ob156.step0 s172)
    have ob197 := (ob158.step0 s172)
    refine Z06 [0, 2, 4, 7, 103] _ rfl ?_
    exact J190 ⟨h171, false, HF, rfl, S173, s172.le, ob196, ob175, ob197⟩
   refine Wp rfl <| Wp rfl <| Wp rfl <| Wp rfl <| Wp rfl <| Wp rfl <| Wp rfl <| Wp rfl <| Wp rfl <| Wp rfl <| Wp rfl <| Wp rfl <| Wp rfl <| Wv rfl (Zf rfl rfl) <| Wm rfl rfl <| Wv rfl (Z2 rfl Z1g) <| Wv rfl (Z8 rfl Z0t (OB.cell ob157 (j := 0) rfl)) <| Wv rfl (ov_neq rfl rfl) <| Wm rfl rfl <| Z2m 97 HF rfl (fun HF => ?_) (fun HF => ?_)
   ·refine Wv rfl (Z2 rfl Z72) <| Wv rfl (Z8 rfl Zdl (OB.cell ob157 (j := 3) rfl)) ?_
    obtain ⟨A178, c179, rfl, rs180⟩ := RS.form (rs14.mono ((s26.le).trans ((s40.le).trans ((s47.le).trans ((le107).trans le154)))))
    refine Wv rfl (Z0v rfl Z26) <| Wv rfl (Zao rfl rfl) <| Wv rfl (Zh rfl rfl) <| Wv rfl (Zf rfl rfl) <| Z7 <| Z06 [0, 2, 4, 7, 103] _ rfl ?_
    exact J190 ⟨h152, decide ((0 : Int) < (x6.fields.length : Int)), HF, rfl, S155, Hle.refl _, ob156, ob157, ob158⟩
   refine Wp rfl <| Wp rfl <| Wp rfl <| Wp rfl <| Wv rfl (Zf rfl rfl) <| Wv rfl (Zf rfl rfl) <| Z7 <| Z06 [0, 2, 4, 7, 103] _ rfl ?_
   exact J190 ⟨h152, false, HF, rfl, S155, Hle.refl _, ob156, ob157, ob158⟩
  intro J360
  refine Z04 (fun E w137 => ∃ (h136 : Hp) (x140 : Bool), Z35 k (Zg k) x6 x9 r34 x109 x110 x140 = some r ∧ E = [(0, pt b1 0), (2, vi x9), (4, pt b24 0), (7, pt b38 0), (74, .bool x140)] ∧ Stp [b1] w0 h0 w137 h136 ∧ Hle h105 h136 ∧ OB w137 h136 b1 T2 [vi x109, vi x110] ∧ OB w137 h136 b24 44 [vi x6.op, .string x6.name, v11, v13, v15, vi x6.n, v17, v19, v21, .bool x6.els] ∧ OB w137 h136 b38 128 [.bool ((r34.getD (false, 0, 0, false, false)).1), vi ((r34.getD (false, 0, 0, false, false)).2.1), vi ((r34.getD (false, 0, 0, false, false)).2.2.1), .bool ((r34.getD (false, 0, 0, false, false)).2.2.2.1), .bool ((r34.getD (false, 0, 0, false, false)).2.2.2.2)]) ?_ ?_
  ·rintro E w137 ⟨h136, x140, HF, rfl, S139, le138, ob141, ob142, ob143⟩
   refine Z12 HF rfl (fun HF => ?_) (fun HF => ?_)
   ·refine Za <| Z0 <| Wa rfl rfl <| Z7 <| Z5 <| Z09 <| Zp <| Zt rfl rfl ?_
    obtain rfl := Option.some.inj HF
    exact ⟨_, rfl, h136, S139, rfl, ob141⟩
   refine Zm <| Z06 [0, 2, 4, 7] _ rfl ?_
   exact J360 ⟨h136, HF, rfl, S139, le138, ob141, ob142, ob143⟩
  intro J145
  refine Z0 <| Wv rfl (Z2 rfl Z5h) <| Wv rfl (Z8 rfl Z0h (OB.cell ob112 (j := 2) rfl)) ?_
  obtain ⟨A114, c115, rfl, rs116⟩ := RS.form (rs12.mono ((s26.le).trans ((s40.le).trans ((s47.le).trans le107))))
  refine Wv rfl (Z0v rfl Zx) <| Wv rfl (Zao rfl rfl) <| Wm rfl rfl <| Z2m 49 HF rfl (fun HF => ?_) (fun HF => ?_)
  ·refine Wv rfl (Z2 rfl Z1g) <| Wv rfl (Z8 rfl Z0t (OB.cell ob112 (j := 0) rfl)) <| Wv rfl (ov_neq rfl rfl) <| Wm rfl rfl <| Z2m 53 HF rfl (fun HF => ?_) (fun HF => ?_)
   ·refine Wp rfl <| Wp rfl <| Wp rfl <| Wp rfl <| Wv rfl (Zh rfl rfl) <| Wv rfl (Zh rfl rfl) <| Wm rfl rfl <| Wp rfl <| Wp rfl <| Wp rfl <| Wp rfl <| Wp rfl <| Wp rfl <| Wp rfl <| Wv rfl (Zh rfl rfl) <| Wm rfl rfl <| Wp rfl <| Wp rfl <| Wp rfl <| Wp rfl <| Wv rfl (Zh rfl rfl) <| Z7 <| Z06 [0, 2, 4, 7, 74] _ rfl ?_
    exact J145 ⟨h105, true, HF, rfl, S108, Hle.refl _, ob111, ob112, ob113⟩
   refine Wv rfl (Z2 rfl Z5h) <| Wv rfl (Z8 rfl Z0h (OB.cell ob112 (j := 2) rfl)) <| Wv rfl (Z0v rfl Zx) <| Wv rfl (Zao rfl rfl) <| Wv rfl (Zf rfl rfl) <| Wv rfl (Zh rfl rfl) <| Wm rfl rfl <| Z2m 60 HF rfl (fun HF => ?_) (fun HF => ?_)
   ·refine Wp rfl <| Wp rfl <| Wp rfl <| Wp rfl <| Wp rfl <| Wp rfl <| Wp rfl <| Wv rfl (Zh rfl rfl) <| Wm rfl rfl <| Wp rfl <| Wp rfl <| Wp rfl <| Wp rfl <| Wv rfl (Zh rfl rfl) <| Z7 <| Z06 [0, 2, 4, 7, 74] _ rfl ?_
    exact J145 ⟨h105, true, HF, rfl, S108, Hle.refl _, ob111, ob112, ob113⟩
   refine Wv rfl (Z2 rfl Z1g) <| Wv rfl (Z8 rfl Z0t (OB.cell ob112 (j := 0) rfl)) <| Wv rfl (Z0y rfl rfl) <| Wv rfl (Z2 rfl Z3s) <| Wv rfl (Z8 rfl Z0t (OB.cell ob112 (j := 5) rfl)) <| Wv rfl (ov_neq rfl rfl) <| Wv rfl (ov_neqB rfl rfl t_bool_4) <| Wv rfl (Zf rfl rfl) <| Wm rfl rfl <| Z2m 69 HF rfl (fun HF => ?_) (fun HF => ?_)
   ·refine Wp rfl <| Wp rfl <| Wp rfl <| Wp rfl <| Wv rfl (Zh rfl rfl) <| Z7 <| Z06 [0, 2, 4, 7, 74] _ rfl ?_
    exact J145 ⟨h105, true, HF, rfl, S108, Hle.refl _, ob111, ob112, ob113⟩
   refine Wv rfl (Z2 rfl Z3s) <| Wv rfl (Z8 rfl Z0t (OB.cell ob112 (j := 5) rfl)) ?_
   obtain ⟨r121, hr122, HF⟩ := Z6 HF
   refine Wc rfl (Zi (vs := [vi x6.n]) rfl t_ent_34) (Zc7 _ hr122 S108.sub) ?_
   rintro _ w124 ⟨h125, s126, rfl⟩
   have S127 := S108.trans0 s126
   refine Wv rfl (Z4o rfl) <| Wv rfl (Zf rfl rfl) <| Z7 ?_
   have ob146 := (ob111.step0 s126)
   have ob147 := (ob112.step0 s126)
   have ob148 := (ob113.step0 s126)
   refine Z06 [0, 2, 4, 7, 74] _ rfl ?_
   exact J145 ⟨h125, !r121, HF, rfl, S127, s126.le, ob146, ob147, ob148⟩
  refine Wp rfl <| Wp rfl <| Wp rfl <| Wp rfl <| Wp rfl <| Wp rfl <| Wp rfl <| Wp rfl <| Wp rfl <| Wv rfl (Zf rfl rfl) <| Wm rfl rfl <| Wv rfl (Z2 rfl Z1g) <| Wv rfl (Z8 rfl Z0t (OB.cell ob112 (j := 0) rfl)) <| Wv rfl (Z0y rfl rfl) <| Wv rfl (Z2 rfl Z3s) <| Wv rfl (Z8 rfl Z0t (OB.cell ob112 (j := 5) rfl)) <| Wv rfl (ov_neq rfl rfl) <| Wv rfl (ov_neqB rfl rfl t_bool_4) <| Wv rfl (Zf rfl rfl) <| Wm rfl rfl <| Z2m 69 HF rfl (fun HF => ?_) (fun HF => ?_)
  ·refine Wp rfl <| Wp rfl <| Wp rfl <| Wp rfl <| Wv rfl (Zh rfl rfl) <| Z7 <| Z06 [0, 2, 4, 7, 74] _ rfl ?_
   exact J145 ⟨h105, true, HF, rfl, S108, Hle.refl _, ob111, ob112, ob113⟩
  refine Wv rfl (Z2 rfl Z3s) <| Wv rfl (Z8 rfl Z0t (OB.cell ob112 (j := 5) rfl)) ?_
  obtain ⟨r129, hr130, HF⟩ := Z6 HF
  refine Wc rfl (Zi (vs := [vi x6.n]) rfl t_ent_34) (Zc7 _ hr130 S108.sub) ?_
  rintro _ w132 ⟨h133, s134, rfl⟩
  have S135 := S108.trans0 s134
  refine Wv rfl (Z4o rfl) <| Wv rfl (Zf rfl rfl) <| Z7 ?_
  have ob149 := (ob111.step0 s134)
  have ob150 := (ob112.step0 s134)
  have ob151 := (ob113.step0 s134)
  refine Z06 [0, 2, 4, 7, 74] _ rfl ?_
  exact J145 ⟨h133, !r129, HF, rfl, S135, s134.le, ob149, ob150, ob151⟩
 intro J361
 refine Z04 (fun E w84 => ∃ (h83 : Hp) (x87 : Bool) (x88 : Int) (x89 : Int), Z3r k (Zg k) x6 x9 r34 x87 x88 x89 = some r ∧ E = [(0, pt b1 0), (2, vi x9), (4, pt b24 0), (7, pt b38 0), (44, .bool x87)] ∧ Stp [b1] w0 h0 w84 h83 ∧ Hle h0 h83 ∧ OB w84 h83 b1 T2 [vi x88, vi x89] ∧ OB w84 h83 b24 44 [vi x6.op, .string x6.name, v11, v13, v15, vi x6.n, v17, v19, v21, .bool x6.els] ∧ OB w84 h83 b38 128 [.bool ((r34.getD (false, 0, 0, false, false)).1), vi ((r34.getD (false, 0, 0, false, false)).2.1), vi ((r34.getD (false, 0, 0, false, false)).2.2.1), .bool ((r34.getD (false, 0, 0, false, false)).2.2.2.1), .bool ((r34.getD (false, 0, 0, false, false)).2.2.2.2)]) ?_ ?_
 ·rintro E w84 ⟨h83, x87, x88, x89, HF, rfl, S86, le85, ob90, ob91, ob92⟩
  refine Z12 HF rfl (fun HF => ?_) (fun HF => ?_)
  ·refine Za <| Z0 <| Wa rfl rfl <| Z7 <| Z5 <| Z09 <| Zp <| Zt rfl rfl ?_
   obtain rfl := Option.some.inj HF
   exact ⟨_, rfl, h83, S86, rfl, ob90⟩
  refine Zm <| Z06 [0, 2, 4, 7] _ rfl ?_
  exact J361 ⟨h83, x88, x89, HF, rfl, S86, le85, ob90, ob91, ob92⟩
 intro J94
 refine Z0 <| Wm rfl rfl <| Wv rfl (Z4o rfl) <| Wm rfl rfl <| Z2m 20 HF rfl (fun HF => ?_) (fun HF => ?_)
 ·refine Wp rfl <| Wp rfl <| Wp rfl <| Wp rfl <| Wv rfl (Zh rfl rfl) <| Wm rfl rfl <| Wp rfl <| Wp rfl <| Wp rfl <| Wp rfl <| Wp rfl <| Wp rfl <| Wv rfl (Zh rfl rfl) <| Wm rfl rfl <| Wp rfl <| Wp rfl <| Wp rfl <| Wp rfl <| Wp rfl <| Wp rfl <| Wp rfl <| Wp rfl <| Wp rfl <| Wv rfl (Zh rfl rfl) <| Z7 ?_
  have ob95 := ((ob36.step0 s40).step1 s47 ne42)
  have ob96 := ((ob27.step0 s40).step1 s47 ne43)
  refine Z06 [0, 2, 4, 7, 44] _ rfl ?_
  exact J94 ⟨h0, true, x3, x4, HF, rfl, S49, Hle.refl _, ob95, ob96, ob48⟩
 refine Wm rfl rfl <| Wm rfl rfl ?_
 have ob51 := ((ob36.step0 s40).step1 s47 ne42)
 obtain ⟨r52, hr53, HF⟩ := Z6 HF
 refine Wc rfl (Zi (vs := [pt b1 0, vi x9]) rfl t_ent_79) (Zaz _ hr53 S49.sub ob51) ?_
 rintro _ w55 ⟨h56, s57, rfl, ob58⟩
 have S59 := S49.trans s57 (Zy (.inl (by simp)) Z0q)
 refine Wv rfl (Z4o rfl) <| Wv rfl (Zf rfl rfl) <| Wm rfl rfl <| Z2m 26 HF rfl (fun HF => ?_) (fun HF => ?_)
 ·refine Wp rfl <| Wp rfl <| Wp rfl <| Wp rfl <| Wp rfl <| Wp rfl <| Wv rfl (Zh rfl rfl) <| Wm rfl rfl <| Wp rfl <| Wp rfl <| Wp rfl <| Wp rfl <| Wp rfl <| Wp rfl <| Wp rfl <| Wp rfl <| Wp rfl <| Wv rfl (Zh rfl rfl) <| Z7 ?_
  have ob97 := (((ob27.step0 s40).step1 s47 ne43).step1 s57 (Ne.symm ne28))
  have ob98 := (ob48.step1 s57 (Ne.symm ne42))
  refine Z06 [0, 2, 4, 7, 44] _ rfl ?_
  exact J94 ⟨h56, true, r52.2.1, r52.2.2, HF, rfl, S59, s57.le, ob58, ob97, ob98⟩
 refine Wv rfl (Z2 rfl Z62) ?_
 have ob61 := (((ob27.step0 s40).step1 s47 ne43).step1 s57 (Ne.symm ne28))
 refine Wv rfl (Z8 rfl Z3l (OB.cell ob61 (j := 1) rfl)) <| Wv rfl (Z2 rfl t_field_128_0) ?_
 have ob62 := (ob48.step1 s57 (Ne.symm ne42))
 refine Wv rfl (Z8 rfl Z65 (OB.cell ob62 (j := 0) rfl)) ?_
 obtain ⟨r63, hr64, HF⟩ := Z6 HF
 refine Wc rfl (Zi (vs := [.string x6.name, .bool ((r34.getD (false, 0, 0, false, false)).1)]) rfl t_ent_80) (Zey _ hr64 S59.sub) ?_
 rintro _ w66 ⟨h67, s68, rfl⟩
 have S69 := S59.trans0 s68
 refine Wv rfl (Z4o rfl) <| Wv rfl (Zf rfl rfl) <| Wm rfl rfl <| Z2m 34 HF rfl (fun HF => ?_) (fun HF => ?_)
 ·refine Wp rfl <| Wp rfl <| Wp rfl <| Wp rfl <| Wp rfl <| Wp rfl <| Wp rfl <| Wp rfl <| Wp rfl <| Wv rfl (Zh rfl rfl) <| Z7 ?_
  have ob99 := (ob58.step0 s68)
  have ob100 := (ob61.step0 s68)
  have ob101 := (ob62.step0 s68)
  refine Z06 [0, 2, 4, 7, 44] _ rfl ?_
  exact J94 ⟨h67, true, r52.2.1, r52.2.2, HF, rfl, S69, (s57.le).trans s68.le, ob99, ob100, ob101⟩
 refine Wv rfl (Z2 rfl Z1f) ?_
 have ob71 := (ob61.step0 s68)
 refine Wv rfl (Z8 rfl Z0h (OB.cell ob71 (j := 4) rfl)) ?_
 obtain ⟨A72, c73, rfl, rs74⟩ := RS.form (rs16.mono ((s26.le).trans ((s40.le).trans ((s47.le).trans ((s57.le).trans s68.le)))))
 refine Wv rfl (Z0v rfl Zx) <| Wv rfl (Z2 rfl t_field_128_1) ?_
 have ob75 := (ob62.step0 s68)
 refine Wv rfl (Z8 rfl Z0t (OB.cell ob75 (j := 1) rfl)) <| Wv rfl (Z2 rfl t_field_128_2) <| Wv rfl (Z8 rfl Z0t (OB.cell ob75 (j := 2) rfl)) ?_
 obtain ⟨r76, hr77, HF⟩ := Z6 HF
 refine Wc rfl (Zi (vs := [vi (x6.args.length : Int), vi ((r34.getD (false, 0, 0, false, false)).2.1), vi ((r34.getD (false, 0, 0, false, false)).2.2.1)]) rfl t_ent_62) (Zbu _ hr77 S69.sub) ?_
 rintro _ w79 ⟨h80, s81, rfl⟩
 have S82 := S69.trans0 s81
 refine Wv rfl (Z4o rfl) <| Wv rfl (Zf rfl rfl) <| Z7 ?_
 have ob102 := ((ob58.step0 s68).step0 s81)
 have ob103 := (ob71.step0 s81)
 have ob104 := (ob75.step0 s81)
 refine Z06 [0, 2, 4, 7, 44] _ rfl ?_
 exact J94 ⟨h80, !r76, r52.2.1, r52.2.2, HF, rfl, S82, (s57.le).trans ((s68.le).trans s81.le), ob102, ob103, ob104⟩
theorem Z9x : ∀ k j, j ≤ k → Z5p (Zg j).ast_Counter_arm ∧ Z5c (Zg j).ast_Counter_Text ∧ Z5a (Zg j).ast_Counter_stmt := by
  intro k
  induction k with
  | zero =>
    intro j hj
    obtain rfl : j = 0 := by omega
    exact ⟨(fun _ _ _ _ _ _ => by intro h; cases h), (fun _ _ _ _ _ => by intro h; cases h), (fun _ _ _ _ _ => by intro h; cases h)⟩
  | succ k ih =>
    intro j hj
    by_cases h : j ≤ k
    · exact ih j h
    · obtain rfl : j = k + 1 := by omega
      exact ⟨s_ast_Counter_arm k ih, s_ast_Counter_Text k ih, s_ast_Counter_stmt k ih⟩
theorem ok_ast_Counter_arm (k : Nat) : Z5p (Zbx k) := (Z9x k k (Nat.le_refl _)).1
theorem ok_ast_Counter_Text (k : Nat) : Z5c (Z1v k) := (Z9x k k (Nat.le_refl _)).2.1
theorem ok_ast_Counter_stmt (k : Nat) : Z5a (Zau k) := (Z9x k k (Nat.le_refl _)).2.2

def C_ast_IsText (φ : (List St) → Option Bool) : Prop := ∀ ⦃xs1 : List St⦄ ⦃r : Bool⦄, φ xs1 = some r → ∀ ⦃w0 : World⦄ ⦃h0 : Hp⦄ ⦃v2 : Value⦄, Sub h0 w0 → RS h0 v2 xs1 →
  Calls Tryz.prog 19 #[v2] w0 fun e w1 => ∃ v, e = .returned v ∧ ∃ h1, Stp [] w0 h0 w1 h1 ∧ v = .bool r
theorem s_ast_IsText (k : Nat) : C_ast_IsText (Z9c k) := by
 intro xs1 r HF w0 h0 v2 hs0 rs3
 have S0 : Stp [] w0 h0 w0 h0 := Stp.refl hs0 _
 refine Z66 (n := 6) Tryz.func19 rfl Tryz.ntmps19 rfl [(0, v2)] rfl <| Za <| Z0 <| Wa rfl rfl <| Z7 <| Z5 <| Za <| Z0 <| Za3 (zs := [vi 0, vi 0]) rfl rfl t_zero_75 rfl S0.sub (fun w4 b5 hb6 s7 ob8 => ?_)
 have g9 : w0.heap.size ≤ b5 := by rw [hb6]; exact S0.size
 have S10 := S0.trans0 s7
 refine Z7 <| Z5 <| Za <| Z0 <| Wm rfl rfl ?_
 obtain ⟨r11, hr12, HF⟩ := Z6 HF
 refine Wc rfl (Zi (vs := [pt b5 0, v2, vi 1]) rfl t_ent_38) (ok_ast_Counter_Text _ hr12 S10.sub (rs3.mono (s7.le)) ob8) ?_
 rintro _ w14 ⟨h15, s16, rfl, ob17⟩
 have S18 := S10.trans s16 (Zy (.inr g9) Z0q)
 refine Wa rfl rfl <| Z7 <| Z5 <| Z09 <| Zt rfl rfl ?_
 obtain rfl := Option.some.inj HF
 exact ⟨_, rfl, h15, S18, rfl⟩
theorem ok_ast_IsText (k : Nat) : C_ast_IsText (Z9c k) := s_ast_IsText k

def C_print_signs (φ : Option (List (Int × (ByteArray × Int)))) : Prop := ∀ ⦃r : List (Int × (ByteArray × Int))⦄, φ  = some r → ∀ ⦃w0 : World⦄ ⦃h0 : Hp⦄, Sub h0 w0 →
  Calls Tryz.prog 55 #[] w0 fun e w1 => ∃ v, e = .returned v ∧ ∃ h1, Stp [] w0 h0 w1 h1 ∧ RM (fun x : ByteArray × Int => .agg #[.string x.1, .int .i64 x.2]) h1 v r
theorem s_print_signs (k : Nat) : C_print_signs (Z9s k) := by
 intro  r HF w0 h0  hs0 
 have S0 : Stp [] w0 h0 w0 h0 := Stp.refl hs0 _
 refine Z66 (n := 19) Tryz.func55 rfl Tryz.ntmps55 rfl [] rfl <| Za <| Z0 <| Wa rfl rfl <| Z7 <| Z5 <| Za <| Z0 <| WL.makeMap rfl rfl S0.sub (fun w1 b2 hb3 s4 ob5 => ?_)
 have g6 : w0.heap.size ≤ b2 := by rw [hb3]; exact S0.size
 have S7 := S0.trans0 s4
 refine Wv rfl (Z3o (vs := [(0, .string b'47), (1, vi 8)]) (cs := [.string b'47, vi 8]) rfl Z3t Z4p rfl) <| Z67 rfl rfl rfl rfl Z7j Z9o (.inr ⟨_, rfl⟩) ob5 S7.sub rfl (fun w8 s9 ob10 => ?_)
 have S11 := S7.trans1 s9 (.inr g6)
 refine Wv rfl (Z3o (vs := [(0, .string b'104), (1, vi 8)]) (cs := [.string b'104, vi 8]) rfl Z3t Z4p rfl) <| Z67 rfl rfl rfl rfl Z7j Z9o (.inr ⟨_, rfl⟩) ob10 S11.sub rfl (fun w12 s13 ob14 => ?_)
 have S15 := S11.trans1 s13 (.inr g6)
 refine Wv rfl (Z3o (vs := [(0, .string b'51), (1, vi 1)]) (cs := [.string b'51, vi 1]) rfl Z3t Z4p rfl) <| Z67 rfl rfl rfl rfl Z7j Z9o (.inr ⟨_, rfl⟩) ob14 S15.sub rfl (fun w16 s17 ob18 => ?_)
 have S19 := S15.trans1 s17 (.inr g6)
 refine Wv rfl (Z3o (vs := [(0, .string b'85), (1, vi 2)]) (cs := [.string b'85, vi 2]) rfl Z3t Z4p rfl) <| Z67 rfl rfl rfl rfl Z7j Z9o (.inr ⟨_, rfl⟩) ob18 S19.sub rfl (fun w20 s21 ob22 => ?_)
 have S23 := S19.trans1 s21 (.inr g6)
 refine Wv rfl (Z3o (vs := [(0, .string b'119), (1, vi 3)]) (cs := [.string b'119, vi 3]) rfl Z3t Z4p rfl) <| Z67 rfl rfl rfl rfl Z7j Z9o (.inr ⟨_, rfl⟩) ob22 S23.sub rfl (fun w24 s25 ob26 => ?_)
 have S27 := S23.trans1 s25 (.inr g6)
 refine Wv rfl (Z3o (vs := [(0, .string b'112), (1, vi 4)]) (cs := [.string b'112, vi 4]) rfl Z3t Z4p rfl) <| Z67 rfl rfl rfl rfl Z7j Z9o (.inr ⟨_, rfl⟩) ob26 S27.sub rfl (fun w28 s29 ob30 => ?_)
 have S31 := S27.trans1 s29 (.inr g6)
 refine Wv rfl (Z3o (vs := [(0, .string b'110), (1, vi 4)]) (cs := [.string b'110, vi 4]) rfl Z3t Z4p rfl) <| Z67 rfl rfl rfl rfl Z7j Z9o (.inr ⟨_, rfl⟩) ob30 S31.sub rfl (fun w32 s33 ob34 => ?_)
 have S35 := S31.trans1 s33 (.inr g6)
 refine Wv rfl (Z3o (vs := [(0, .string b'111), (1, vi 5)]) (cs := [.string b'111, vi 5]) rfl Z3t Z4p rfl) <| Z67 rfl rfl rfl rfl Z7j Z9o (.inr ⟨_, rfl⟩) ob34 S35.sub rfl (fun w36 s37 ob38 => ?_)
 have S39 := S35.trans1 s37 (.inr g6)
 refine Wv rfl (Z3o (vs := [(0, .string b'109), (1, vi 5)]) (cs := [.string b'109, vi 5]) rfl Z3t Z4p rfl) <| Z67 rfl rfl rfl rfl Z7j Z9o (.inr ⟨_, rfl⟩) ob38 S39.sub rfl (fun w40 s41 ob42 => ?_)
 have S43 := S39.trans1 s41 (.inr g6)
 refine Wv rfl (Z3o (vs := [(0, .string b'114), (1, vi 5)]) (cs := [.string b'114, vi 5]) rfl Z3t Z4p rfl) <| Z67 rfl rfl rfl rfl Z7j Z9o (.inr ⟨_, rfl⟩) ob42 S43.sub rfl (fun w44 s45 ob46 => ?_)
 have S47 := S43.trans1 s45 (.inr g6)
 refine Wv rfl (Z3o (vs := [(0, .string b'113), (1, vi 5)]) (cs := [.string b'113, vi 5]) rfl Z3t Z4p rfl) <| Z67 rfl rfl rfl rfl Z7j Z9o (.inr ⟨_, rfl⟩) ob46 S47.sub rfl (fun w48 s49 ob50 => ?_)
 have S51 := S47.trans1 s49 (.inr g6)
 refine Wv rfl (Z3o (vs := [(0, .string b'102), (1, vi 6)]) (cs := [.string b'102, vi 6]) rfl Z3t Z4p rfl) <| Z67 rfl rfl rfl rfl Z7j Z9o (.inr ⟨_, rfl⟩) ob50 S51.sub rfl (fun w52 s53 ob54 => ?_)
 have S55 := S51.trans1 s53 (.inr g6)
 refine Wv rfl (Z3o (vs := [(0, .string b'104), (1, vi 6)]) (cs := [.string b'104, vi 6]) rfl Z3t Z4p rfl) <| Z67 rfl rfl rfl rfl Z7j Z9o (.inr ⟨_, rfl⟩) ob54 S55.sub rfl (fun w56 s57 ob58 => ?_)
 have S59 := S55.trans1 s57 (.inr g6)
 refine Wv rfl (Z3o (vs := [(0, .string b'101), (1, vi 7)]) (cs := [.string b'101, vi 7]) rfl Z3t Z4p rfl) <| Z67 rfl rfl rfl rfl Z7j Z9o (.inr ⟨_, rfl⟩) ob58 S59.sub rfl (fun w60 s61 ob62 => ?_)
 have S63 := S59.trans1 s61 (.inr g6)
 refine Wv rfl (Z3o (vs := [(0, .string b'105), (1, vi 7)]) (cs := [.string b'105, vi 7]) rfl Z3t Z4p rfl) <| Z67 rfl rfl rfl rfl Z7j Z9o (.inr ⟨_, rfl⟩) ob62 S63.sub rfl (fun w64 s65 ob66 => ?_)
 have S67 := S63.trans1 s65 (.inr g6)
 refine Wv rfl (Z3o (vs := [(0, .string b'42), (1, vi 7)]) (cs := [.string b'42, vi 7]) rfl Z3t Z4p rfl) <| Z67 rfl rfl rfl rfl Z7j Z9o (.inr ⟨_, rfl⟩) ob66 S67.sub rfl (fun w68 s69 ob70 => ?_)
 have S71 := S67.trans1 s69 (.inr g6)
 refine Wm rfl rfl <| Wa rfl rfl <| Z7 <| Z5 <| Z09 ?_
 obtain ⟨h72, s73, rm74⟩ := MB.freeze (evl := (fun x : ByteArray × Int => .agg #[.string x.1, vi x.2])) (T := ([(6, (b'47, 8)), (7, (b'104, 8)), (8, (b'51, 1)), (9, (b'85, 2)), (10, (b'119, 3)), (11, (b'112, 4)), (12, (b'110, 4)), (13, (b'111, 5)), (14, (b'109, 5)), (15, (b'114, 5)), (16, (b'113, 5)), (17, (b'102, 6)), (18, (b'104, 6)), (19, (b'101, 7)), (20, (b'105, 7)), (21, (b'42, 7))] : List (Int × (ByteArray × Int)))) ob70 S71.sub
 have S75 := S71.trans1 s73 (.inr g6)
 refine Zt rfl rfl ?_
 obtain rfl := Option.some.inj HF
 exact ⟨_, rfl, h72, S75, rm74⟩
theorem ok_print_signs (k : Nat) : C_print_signs (Z9s k) := s_print_signs k

def C_strconv_FormatBool (φ : Bool → Option ByteArray) : Prop := ∀ ⦃x1 : Bool⦄ ⦃r : ByteArray⦄, φ x1 = some r → ∀ ⦃w0 : World⦄ ⦃h0 : Hp⦄, Sub h0 w0 →
  Calls Tryz.prog 35 #[.bool x1] w0 fun e w1 => ∃ v, e = .returned v ∧ ∃ h1, Stp [] w0 h0 w1 h1 ∧ v = .string r
theorem ok_strconv_FormatBool (k : Nat) : C_strconv_FormatBool (Z6v k) := by
  intro x1 r HF w0 h0 hs0
  simp only [Z6v] at HF
  cases HF
  refine (Tryz.strconv_FormatBool x1 w0).mono ?_
  rintro e w1 ⟨rfl, rfl⟩
  exact ⟨_, rfl, h0, Stp.refl hs0 _, rfl⟩

def C_strconv_Itoa (φ : Int → Option ByteArray) : Prop := ∀ ⦃x1 : Int⦄ ⦃r : ByteArray⦄, φ x1 = some r → ∀ ⦃w0 : World⦄ ⦃h0 : Hp⦄, Sub h0 w0 →
  Calls Tryz.prog 36 #[.int .i64 x1] w0 fun e w1 => ∃ v, e = .returned v ∧ ∃ h1, Stp [] w0 h0 w1 h1 ∧ v = .string r
theorem Zbh (k : Nat) : C_strconv_Itoa (Z5u k) := by
  intro x1 r HF w0 h0 hs0
  simp only [Z5u] at HF
  obtain ⟨hn, HF⟩ := Zj HF
  cases HF
  rw [itoaB_eq hn]
  refine (Tryz.strconv_Itoa x1 hn.1 hn.2 w0 (glob_pow hs0)).mono ?_
  rintro e w1 ⟨rfl, k, os, rfl⟩
  exact ⟨_, rfl, h0, Stp.of_below hs0 (grow_below k os), rfl⟩

def C_print_Const (φ : Int → Int → Option (ByteArray × Int)) : Prop := ∀ ⦃x1 : Int⦄ ⦃x2 : Int⦄ ⦃r : ByteArray × Int⦄, φ x1 x2 = some r → ∀ ⦃w0 : World⦄ ⦃h0 : Hp⦄, Sub h0 w0 →
  Calls Tryz.prog 17 #[.int .i64 x1, .int .i64 x2] w0 fun e w1 => ∃ v, e = .returned v ∧ ∃ h1, Stp [] w0 h0 w1 h1 ∧ (∃ u0 u1 : Value, v = .tuple #[u0, u1] ∧ (u0 = .string r.1) ∧ (u1 = .int .i64 r.2))
theorem s_print_Const (k : Nat) : C_print_Const (Z82 k) := by
 intro x1 x2 r HF w0 h0  hs0 
 have S0 : Stp [] w0 h0 w0 h0 := Stp.refl hs0 _
 refine Z66 (n := 32) Tryz.func17 rfl Tryz.ntmps17 rfl [(0, vi x1), (1, vi x2)] rfl <| Za <| Z0 <| Wa rfl rfl <| Wa rfl rfl <| Z7 <| Z5 <| Z04 (fun E w27 => ∃ (h26 : Hp), Zeh k x1 x2 = some r ∧ E = [(0, vi x1), (1, vi x2)] ∧ Stp [] w0 h0 w27 h26 ∧ Hle h0 h26) ?_ ?_
 ·rintro E w27 ⟨h26, HF, rfl, S29, le28⟩
  refine Z04 (fun E w48 => ∃ (h47 : Hp), Zf3 k x2 = some r ∧ E = [(1, vi x2)] ∧ Stp [] w0 h0 w48 h47 ∧ Hle h26 h47) ?_ ?_
  ·rintro E w48 ⟨h47, HF, rfl, S50, le49⟩
   refine Za <| Z0 <| Wm rfl rfl ?_
   obtain ⟨r51, hr52, HF⟩ := Z6 HF
   refine Wc rfl (Zi (vs := [vi x2]) rfl t_ent_36) (Zbh _ hr52 S50.sub) ?_
   rintro _ w54 ⟨h55, s56, rfl⟩
   have S57 := S50.trans0 s56
   refine Wa rfl rfl <| Wa rfl rfl <| Z7 <| Z5 <| Z09 <| Z94 rfl rfl rfl ?_
   obtain rfl := Option.some.inj HF
   exact ⟨_, rfl, h55, S57, _, _, rfl, rfl, rfl⟩
  intro J58
  refine Za <| Z0 <| Wm rfl rfl <| Z7 <| Z5 <| Z0c <| Za <| Z0 <| Wv rfl (Z0y rfl rfl) <| Wa rfl rfl <| Z7 <| Z5 <| Z12 HF rfl (fun HF => ?_) (fun HF => ?_)
  ·refine Za <| Z0 <| Wm rfl rfl <| Wv rfl (Z0y rfl rfl) ?_
   obtain ⟨r31, hr32, HF⟩ := Z6 HF
   refine Wc rfl (Zi (vs := [.bool ((x2 : Int) == 1)]) rfl t_ent_35) (ok_strconv_FormatBool _ hr32 S29.sub) ?_
   rintro _ w34 ⟨h35, s36, rfl⟩
   have S37 := S29.trans0 s36
   refine Wa rfl rfl <| Wa rfl rfl <| Z7 <| Z5 <| Z09 <| Z03 <| Zp <| Z94 rfl rfl rfl ?_
   obtain rfl := Option.some.inj HF
   exact ⟨_, rfl, h35, S37, _, _, rfl, rfl, rfl⟩
  refine Za <| Z0 <| Wv rfl (Z0y rfl rfl) <| Wa rfl rfl <| Z7 <| Z5 <| Z12 HF rfl (fun HF => ?_) (fun HF => ?_)
  ·refine Za <| Z0 <| Wm rfl rfl ?_
   obtain ⟨r39, hr40, HF⟩ := Z6 HF
   refine Wc rfl (Zi (vs := [vi x2]) rfl t_ent_36) (Zbh _ hr40 S29.sub) ?_
   rintro _ w42 ⟨h43, s44, rfl⟩
   have S45 := S29.trans0 s44
   obtain ⟨hl46, HF⟩ := Zj HF
   refine Wv rfl (Zs rfl rfl hl46) <| Wa rfl rfl <| Wa rfl rfl <| Z7 <| Z5 <| Z09 <| Z03 <| Zp <| Z94 rfl rfl rfl ?_
   obtain rfl := Option.some.inj HF
   exact ⟨_, rfl, h43, S45, _, _, rfl, rfl, rfl⟩
  refine Zm <| Zv <| Z06 [1] _ rfl ?_
  exact J58 ⟨h26, HF, rfl, S29, Hle.refl _⟩
 intro J59
 refine Z04 (fun E w20 => ∃ (h19 : Hp) (x23 : Bool), Za5 k x1 x2 x23 = some r ∧ E = [(0, vi x1), (1, vi x2), (18, .bool x23)] ∧ Stp [] w0 h0 w20 h19 ∧ Hle h0 h19) ?_ ?_
 ·rintro E w20 ⟨h19, x23, HF, rfl, S22, le21⟩
  refine Z12 HF rfl (fun HF => ?_) (fun HF => ?_)
  ·refine Za <| Z0 <| Wa rfl rfl <| Wa rfl rfl <| Z7 <| Z5 <| Z09 <| Zp <| Z94 rfl rfl rfl ?_
   obtain rfl := Option.some.inj HF
   exact ⟨_, rfl, h19, S22, _, _, rfl, rfl, rfl⟩
  refine Zm <| Z06 [0, 1] _ rfl ?_
  exact J59 ⟨h19, HF, rfl, S22, le21⟩
 intro J25
 refine Z0 <| Wm rfl rfl <| Wm rfl rfl ?_
 obtain ⟨r3, hr4, HF⟩ := Z6 HF
 refine Wc rfl (Zi (vs := [vi x1, vi x2]) rfl t_ent_33) (ok_ast_IsConst _ hr4 S0.sub) ?_
 rintro _ w6 ⟨h7, s8, rfl⟩
 have S9 := S0.trans0 s8
 refine Wv rfl (Z4o rfl) <| Wm rfl rfl <| Z2m 10 HF rfl (fun HF => ?_) (fun HF => ?_)
 ·refine Wm rfl rfl <| Wv rfl (ov_neq rfl rfl) <| Wm rfl rfl <| Z2m 13 HF rfl (fun HF => ?_) (fun HF => ?_)
  ·refine Wp rfl <| Wp rfl <| Wp rfl <| Wv rfl (Zh rfl rfl) <| Wv rfl (Zh rfl rfl) <| Z7 <| Z06 [0, 1, 18] _ rfl ?_
   exact J25 ⟨h7, true, HF, rfl, S9, s8.le⟩
  refine Wm rfl rfl ?_
  obtain ⟨r12, hr13, HF⟩ := Z6 HF
  refine Wc rfl (Zi (vs := [vi x2]) rfl t_ent_34) (Zc7 _ hr13 S9.sub) ?_
  rintro _ w15 ⟨h16, s17, rfl⟩
  have S18 := S9.trans0 s17
  refine Wv rfl (Z4o rfl) <| Wv rfl (Zf rfl rfl) <| Wv rfl (Zh rfl rfl) <| Z7 <| Z06 [0, 1, 18] _ rfl ?_
  exact J25 ⟨h16, !r12, HF, rfl, S18, (s8.le).trans s17.le⟩
 refine Wp rfl <| Wp rfl <| Wp rfl <| Wp rfl <| Wp rfl <| Wp rfl <| Wp rfl <| Wv rfl (Zf rfl rfl) <| Z7 <| Z06 [0, 1, 18] _ rfl ?_
 exact J25 ⟨h7, false, HF, rfl, S9, s8.le⟩
theorem ok_print_Const (k : Nat) : C_print_Const (Z82 k) := s_print_Const k

def Ze0 (φ : Ex → Option ByteArray) : Prop := ∀ ⦃x1 : Ex⦄ ⦃r : ByteArray⦄, φ x1 = some r → ∀ ⦃w0 : World⦄ ⦃h0 : Hp⦄ ⦃cs2 : List Value⦄, Sub h0 w0 → Rp.R h0 x1 cs2 →
  Calls Tryz.prog 27 #[.agg cs2.toArray] w0 fun e w1 => ∃ v, e = .returned v ∧ ∃ h1, Stp [] w0 h0 w1 h1 ∧ v = .string r
def Zb2 (φ : Ex → Int → Option ByteArray) : Prop := ∀ ⦃x1 : Ex⦄ ⦃x4 : Int⦄ ⦃r : ByteArray⦄, φ x1 x4 = some r → ∀ ⦃w0 : World⦄ ⦃h0 : Hp⦄ ⦃cs2 : List Value⦄, Sub h0 w0 → Rp.R h0 x1 cs2 →
  Calls Tryz.prog 56 #[.agg cs2.toArray, .int .i64 x4] w0 fun e w1 => ∃ v, e = .returned v ∧ ∃ h1, Stp [] w0 h0 w1 h1 ∧ v = .string r
def Z3a (φ : (List Ex) → ByteArray → Option ByteArray) : Prop := ∀ ⦃xs1 : List Ex⦄ ⦃x4 : ByteArray⦄ ⦃r : ByteArray⦄, φ xs1 x4 = some r → ∀ ⦃w0 : World⦄ ⦃h0 : Hp⦄ ⦃v2 : Value⦄, Sub h0 w0 → RS h0 v2 xs1 →
  Calls Tryz.prog 57 #[v2, .string x4, .func (.func 27) #[] #[]] w0 fun e w1 => ∃ v, e = .returned v ∧ ∃ h1, Stp [] w0 h0 w1 h1 ∧ v = .string r
theorem s_print_Of (k : Nat) (IH : ∀ j, j ≤ k → Ze0 (Zz j).print_Of ∧ Zb2 (Zz j).print_Of_1 ∧ Z3a (Zz j).print_Joined_api_Expr) : Ze0 (Zcp k (Zz k)) := by
 intro x1 r HF w0 h0 cs2 hs0 r3
 have S0 : Stp [] w0 h0 w0 h0 := Stp.refl hs0 _
 refine Z66 (n := 104) Tryz.func27 rfl Tryz.ntmps27 rfl [(0, .agg cs2.toArray)] rfl <| Za <| Z0 ?_
 obtain ⟨v4, rfl, rs5⟩ := rp_Ex.1 r3
 refine Zd2 (cs := [vi x1.op, vi x1.kind, vi x1.n, .string x1.s, .string x1.f, v4]) rfl rfl rfl rfl S0.sub (fun w6 b7 hb8 s9 ob10 => ?_)
 have g11 : w0.heap.size ≤ b7 := by rw [hb8]; exact S0.size
 have S12 := S0.trans0 s9
 refine Wa rfl rfl <| Z7 <| Z5 <| Za ?_
 obtain ⟨r13, hr14, HF⟩ := Z6 HF
 obtain ⟨r17, hr18, HF⟩ := Z6 HF
 replace hr18 := Option.some.inj hr18
 refine WC.drawnF (m := 8) [(1, pt b7 0)] [1] [6] rfl (fun i v w h => match i with | 0 => ∃ (v15 : Value), v = v15 ∧ RM (fun x : ByteArray × Int => .agg #[.string x.1, vi x.2]) h v15 r13 | 1 => v = pt b7 0 | 2 => v = vi x1.op | 3 => v = .tuple #[.agg #[.string ((r17.getD (Z2c, 0)).1), vi ((r17.getD (Z2c, 0)).2)], .bool r17.isSome] | 4 => v = .tuple #[.agg #[.string ((r17.getD (Z2c, 0)).1), vi ((r17.getD (Z2c, 0)).2)], .bool r17.isSome] | 5 => v = .agg #[.string ((r17.getD (Z2c, 0)).1), vi ((r17.getD (Z2c, 0)).2)] | 6 => v = .bool r17.isSome | 7 => ∃ (b19 : Nat), v = pt b19 0 ∧ OB w h b19 91 [.string Z2c, vi 0] ∧ w0.heap.size ≤ b19 ∧ b7 ≠ b19 | _ => True) Z4c S12.sub rfl rfl rfl rfl rfl rfl rfl ?_ ?_ ?_
 ·intro i v w h w2 h2 hΦ hst
  match i, hΦ with
  | 1, hΦ | 2, hΦ | 3, hΦ | 4, hΦ | 5, hΦ | 6, hΦ => exact hΦ
  | 0, ⟨v15, hv0, rm16⟩ => exact ⟨v15, hv0, rm16.mono hst.le⟩
  | 7, ⟨b19, hv7, ob20, g22, ne21⟩ => exact ⟨b19, hv7, ob20.step0 hst, g22, ne21⟩
  | i + 8, _ => exact trivial
 ·refine (FrontsF.front rfl ?_ (FrontsF.front rfl ?_ (FrontsF.front rfl ?_ (FrontsF.front rfl ?_ (FrontsF.front rfl ?_ (FrontsF.front rfl ?_ (FrontsF.float rfl ?_ (FrontsF.front rfl ?_ FrontsF.nil))))))))
  ·intro a w23 h24 s25 hat hF
   refine Z0n hat rfl (Zi (vs := []) rfl t_ent_55) (ok_print_signs _ hr14 s25.sub) ?_
   rintro v15 w26 ⟨h27, s28, rm16⟩
   exact ⟨_, h27, rfl, s28, (by exact ⟨v15, rfl, rm16⟩)⟩
  ·intro a w23 h24 s25 hat hF
   exact Z4 hat rfl (Z2 rfl Z2d) s25.sub (by exact rfl)
  ·intro a w23 h24 s25 hat hF
   have ob29 := (ob10.step0 s25)
   exact Z4 (Z1 hat (hF 1 10 rfl rfl)) rfl (Z8 rfl Z0t (OB.cell ob29 (j := 0) rfl)) s25.sub (by exact rfl)
  ·intro a w23 h24 s25 hat hF
   obtain ⟨v15, hv0, rm16⟩ := hF 0 9 rfl rfl
   exact Z4 (Z1 (Z1 hat hv0) (hF 2 11 rfl rfl)) rfl (ov_lookupI2 (evl := (fun x : ByteArray × Int => .agg #[.string x.1, vi x.2])) (z := (Z2c, 0)) rfl rfl Z7j Z9o Z4p rm16 s25.sub hr18) s25.sub (by exact rfl)
  ·intro a w23 h24 s25 hat hF
   exact Z4 (Z1 hat (hF 3 12 rfl rfl)) rfl (Z0j rfl) s25.sub (by exact rfl)
  ·intro a w23 h24 s25 hat hF
   exact Z4 (Z1 hat (hF 4 8 rfl rfl)) rfl (Z1a rfl rfl) s25.sub (by exact rfl)
  ·intro a w23 h24 ww s25 hat hF
   exact front_float (Z1 hat (hF 4 8 rfl rfl)) rfl (Z1a rfl rfl) (by exact rfl)
  intro a w23 h24 s25 hat hF
  have ob33 := (ob10.step0 s25)
  exact front_alloc (zs := [.string Z2c, vi 0]) hat rfl Z4p rfl s25.sub (fun w32 b19 hb30 s31 ob20 => ⟨b19, rfl, ob20, by rw [hb30]; exact Nat.le_trans S12.size s25.size, ob33.ne_new hb30⟩)
 intro a w23 h24 s25 hat hF
 obtain ⟨v15, hv0, rm16⟩ := hF 0 9 (by decide) rfl rfl
 obtain hv1 := hF 1 10 (by decide) rfl rfl
 obtain hv2 := hF 2 11 (by decide) rfl rfl
 obtain hv3 := hF 3 12 (by decide) rfl rfl
 obtain hv4 := hF 4 8 (by decide) rfl rfl
 obtain hv5 := hF 5 13 (by decide) rfl rfl
 obtain ⟨b19, hv7, ob20, g22, ne21⟩ := hF 7 3 (by decide) rfl rfl
 have S34 := S12.trans0 s25
 refine F.store [(3, pt b19 0), (13, .agg #[.string ((r17.getD (Z2c, 0)).1), vi ((r17.getD (Z2c, 0)).2)]), (8, .tuple #[.agg #[.string ((r17.getD (Z2c, 0)).1), vi ((r17.getD (Z2c, 0)).2)], .bool r17.isSome]), (12, .tuple #[.agg #[.string ((r17.getD (Z2c, 0)).1), vi ((r17.getD (Z2c, 0)).2)], .bool r17.isSome]), (11, vi x1.op), (10, pt b7 0), (9, v15), (1, pt b7 0)] (Z1 (Z1 (Z1 (Z1 (Z1 (Z1 (Z1 hat hv0) hv1) hv2) hv3) hv4) hv5) hv7) rfl (vs := [.string ((r17.getD (Z2c, 0)).1), vi ((r17.getD (Z2c, 0)).2)]) rfl rfl rfl t_size_91 (Z0d rfl (Z0d rfl Z76)) ob20 S34.sub (by simp) (ds := [.string ((r17.getD (Z2c, 0)).1), vi ((r17.getD (Z2c, 0)).2)]) rfl (fun w35 s36 ob37 a2 hat2 hG => ?_)
 have S38 := S34.trans1 s36 (.inr g22)
 obtain hv6 := hG 6 14 (by decide) rfl rfl
 refine Z7u [(14, .bool r17.isSome), (3, pt b19 0), (13, .agg #[.string ((r17.getD (Z2c, 0)).1), vi ((r17.getD (Z2c, 0)).2)]), (8, .tuple #[.agg #[.string ((r17.getD (Z2c, 0)).1), vi ((r17.getD (Z2c, 0)).2)], .bool r17.isSome]), (12, .tuple #[.agg #[.string ((r17.getD (Z2c, 0)).1), vi ((r17.getD (Z2c, 0)).2)], .bool r17.isSome]), (11, vi x1.op), (10, pt b7 0), (9, v15), (1, pt b7 0)] (Z1 hat2 hv6) <| Wa rfl rfl <| Z7 <| Z5 <| Za <| Z0 <| Wa rfl rfl <| Z7 <| Z5 <| Z04 (fun E w128 => ∃ (h127 : Hp), print_Of_j2 k (Zz k) x1 = some r ∧ E = [(1, pt b7 0)] ∧ Stp [] w0 h0 w128 h127 ∧ Hle h24 h127 ∧ OB w128 h127 b7 32 [vi x1.op, vi x1.kind, vi x1.n, .string x1.s, .string x1.f, v4]) ?_ ?_
 ·rintro E w128 ⟨h127, HF, rfl, S130, le129, ob131⟩
  refine Z04 (fun E w187 => ∃ (h186 : Hp), print_Of_j3 k (Zz k) x1 = some r ∧ E = [(1, pt b7 0)] ∧ Stp [] w0 h0 w187 h186 ∧ Hle h127 h186 ∧ OB w187 h186 b7 32 [vi x1.op, vi x1.kind, vi x1.n, .string x1.s, .string x1.f, v4]) ?_ ?_
  ·rintro E w187 ⟨h186, HF, rfl, S189, le188, ob190⟩
   refine Za <| Z0 <| Wv rfl (Z2 rfl Z4y) <| Wv rfl (Z8 rfl Z3l (OB.cell ob190 (j := 3) rfl)) <| Wa rfl rfl <| Z7 <| Z5 <| Z09 <| Zt rfl rfl ?_
   obtain rfl := Option.some.inj HF
   exact ⟨_, rfl, h186, S189, rfl⟩
  intro J191
  refine Za <| Z0 <| Wv rfl (Z2 rfl Z2d) <| Wv rfl (Z8 rfl Z0t (OB.cell ob131 (j := 0) rfl)) <| Z7 <| Z5 <| Z0c <| Za <| Z0 <| Wv rfl (Z0y rfl rfl) <| Wa rfl rfl <| Z7 <| Z5 <| Z12 HF rfl (fun HF => ?_) (fun HF => ?_)
  ·refine Za <| Z0 <| Wv rfl (Z2 rfl Z88) <| Wv rfl (Z8 rfl Z0t (OB.cell ob131 (j := 1) rfl)) <| Wv rfl (Z2 rfl Z7y) <| Wv rfl (Z8 rfl Z0t (OB.cell ob131 (j := 2) rfl)) ?_
   obtain ⟨r133, hr134, HF⟩ := Z6 HF
   refine Wc rfl (Zi (vs := [vi x1.kind, vi x1.n]) rfl t_ent_17) (ok_print_Const _ hr134 S130.sub) ?_
   rintro _ w136 ⟨h137, s138, _, _, rfl, rfl, rfl⟩
   have S139 := S130.trans0 s138
   refine Wm rfl rfl <| Wv rfl (Z1a rfl rfl) <| Wv rfl (Z1a rfl rfl) <| Wa rfl rfl <| Wa rfl rfl <| Z7 <| Z5 <| Za <| Z0 <| Wm rfl rfl <| Wa rfl rfl <| Z7 <| Z5 <| Z09 <| Z03 <| Zp <| Zt rfl rfl ?_
   obtain rfl := Option.some.inj HF
   exact ⟨_, rfl, h137, S139, rfl⟩
  refine Za <| Z0 <| Wv rfl (Z0y rfl rfl) <| Wa rfl rfl <| Z7 <| Z5 <| Z12 HF rfl (fun HF => ?_) (fun HF => ?_)
  ·refine Za <| Z0 <| Wv rfl (Z2 rfl Z4y) <| Wv rfl (Z8 rfl Z3l (OB.cell ob131 (j := 3) rfl)) ?_
   obtain ⟨hl141, HF⟩ := Zj HF
   refine Wv rfl (Zs rfl rfl hl141) <| Wv rfl (Z2 rfl Zb7) <| Wv rfl (Z8 rfl Z3l (OB.cell ob131 (j := 4) rfl)) ?_
   obtain ⟨hl142, HF⟩ := Zj HF
   refine Wv rfl (Zs rfl rfl hl142) <| Wa rfl rfl <| Z7 <| Z5 <| Z09 <| Z03 <| Zp <| Zt rfl rfl ?_
   obtain rfl := Option.some.inj HF
   exact ⟨_, rfl, h127, S130, rfl⟩
  refine Za <| Z0 <| Wv rfl (Z0y rfl rfl) <| Wa rfl rfl <| Z7 <| Z5 <| Z12 HF rfl (fun HF => ?_) (fun HF => ?_)
  ·refine Za ?_
   obtain ⟨hl144, HF⟩ := Zj HF
   obtain ⟨A145, c146, rfl, rs147⟩ := RS.form (rs5.mono ((s9.le).trans ((s25.le).trans ((s36.le).trans le129))))
   obtain ⟨e148, he149, HF⟩ := Z6 HF
   obtain ⟨b150, o151, rfl, h153, h154, ra152⟩ := RS.atO rs147 he149
   obtain ⟨cs155, r156, hc157⟩ := ra152
   obtain ⟨r158, hr159, HF⟩ := Z6 HF
   refine Z2z (m := 8) [(1, pt b7 0)] [1] rfl (fun i v w h => match i with | 0 => v = pt b7 3 | 1 => v = .string x1.s | 2 => v = .string (x1.s ++ b'115) | 3 => v = pt b7 5 | 4 => v = sl b150 o151 (x1.args).length c146 | 5 => v = pt b150 (o151 + Int.toNat 0 * 6) | 6 => v = .agg cs155.toArray | 7 => v = .string r158 | _ => True) Z4c S130.sub rfl rfl rfl rfl rfl ?_ ?_ ?_
   ·intro i v w h w2 h2 hΦ hst
    match i, hΦ with
    | 0, hΦ | 1, hΦ | 2, hΦ | 3, hΦ | 4, hΦ | 5, hΦ | 6, hΦ | 7, hΦ => exact hΦ
    | i + 8, _ => exact trivial
   ·refine ⟨?_, ?_, ?_, ?_, ?_, ?_, ?_, ?_, trivial⟩
    ·intro a w160 h161 s162 hat hF
     exact Z4 hat rfl (Z2 rfl Z4y) s162.sub (by exact rfl)
    ·intro a w160 h161 s162 hat hF
     have ob163 := (ob131.step0 s162)
     exact Z4 (Z1 hat (hF 0 82 rfl rfl)) rfl (Z8 rfl Z3l (OB.cell ob163 (j := 3) rfl)) s162.sub (by exact rfl)
    ·intro a w160 h161 s162 hat hF
     exact Z4 (Z1 hat (hF 1 83 rfl rfl)) rfl (Zs rfl rfl hl144) s162.sub (by exact rfl)
    ·intro a w160 h161 s162 hat hF
     exact Z4 hat rfl (Z2 rfl Z0z) s162.sub (by exact rfl)
    ·intro a w160 h161 s162 hat hF
     have ob164 := (ob131.step0 s162)
     exact Z4 (Z1 hat (hF 3 85 rfl rfl)) rfl (Z8 rfl Z0h (OB.cell ob164 (j := 5) rfl)) s162.sub (by exact rfl)
    ·intro a w160 h161 s162 hat hF
     exact Z4 (Z1 hat (hF 4 86 rfl rfl)) rfl (Zk rfl rfl Zx Zu h153 h154) s162.sub (by exact rfl)
    ·intro a w160 h161 s162 hat hF
     exact Z4 (Z1 hat (hF 5 87 rfl rfl)) rfl (Z0w (cs := cs155) rfl Z1u (by rw [Rp.len (Rp.mono (s162.le) r156)]; exact Zu) (fun j v hv => s162.sub.at_ _ _ _ ((fun i v hv => (s162.le).1 _ _ _ (hc157 i v hv)) j v hv))) s162.sub (by exact rfl)
    intro a w160 h161 s162 hat hF
    refine Z0n (Z1 hat (hF 6 88 rfl rfl)) rfl (Zi (vs := [.agg cs155.toArray]) rfl Z9f) ((IH _ (Nat.le_refl _)).1 hr159 s162.sub (Rp.mono (s162.le) r156)) ?_
    rintro _ w165 ⟨h166, s167, rfl⟩
    exact ⟨_, h166, rfl, s167, (by exact rfl)⟩
   intro a w160 h161 s162 hat hF
   obtain hv0 := hF 0 82 (by decide) rfl
   obtain hv1 := hF 1 83 (by decide) rfl
   obtain hv2 := hF 2 84 (by decide) rfl
   obtain hv3 := hF 3 85 (by decide) rfl
   obtain hv4 := hF 4 86 (by decide) rfl
   obtain hv5 := hF 5 87 (by decide) rfl
   obtain hv6 := hF 6 88 (by decide) rfl
   obtain hv7 := hF 7 89 (by decide) rfl
   refine Z7u [(89, .string r158), (88, .agg cs155.toArray), (87, pt b150 (o151 + Int.toNat 0 * 6)), (86, sl b150 o151 (x1.args).length c146), (85, pt b7 5), (84, .string (x1.s ++ b'115)), (83, .string x1.s), (82, pt b7 3), (1, pt b7 0)] (Z1 (Z1 (Z1 (Z1 (Z1 (Z1 (Z1 (Z1 hat hv0) hv1) hv2) hv3) hv4) hv5) hv6) hv7) ?_
   have S168 := S130.trans0 s162
   obtain ⟨hl169, HF⟩ := Zj HF
   refine Wv rfl (Zs rfl rfl hl169) ?_
   obtain ⟨hl170, HF⟩ := Zj HF
   refine Wv rfl (Zs rfl rfl hl170) <| Wa rfl rfl <| Z7 <| Z5 <| Z09 <| Z03 <| Zp <| Zt rfl rfl ?_
   obtain rfl := Option.some.inj HF
   exact ⟨_, rfl, h161, S168, rfl⟩
  refine Za <| Z0 <| Wv rfl (Z0y rfl rfl) <| Wa rfl rfl <| Z7 <| Z5 <| Z12 HF rfl (fun HF => ?_) (fun HF => ?_)
  ·refine Za ?_
   obtain ⟨hl172, HF⟩ := Zj HF
   obtain ⟨r173, hr174, HF⟩ := Z6 HF
   refine Z2z (m := 6) [(1, pt b7 0)] [1] rfl (fun i v w h => match i with | 0 => v = pt b7 3 | 1 => v = .string x1.s | 2 => v = .string (x1.s ++ b'99) | 3 => v = pt b7 5 | 4 => v = v4 | 5 => v = .string r173 | _ => True) Z4c S130.sub rfl rfl rfl rfl rfl ?_ ?_ ?_
   ·intro i v w h w2 h2 hΦ hst
    match i, hΦ with
    | 0, hΦ | 1, hΦ | 2, hΦ | 3, hΦ | 4, hΦ | 5, hΦ => exact hΦ
    | i + 6, _ => exact trivial
   ·refine ⟨?_, ?_, ?_, ?_, ?_, ?_, trivial⟩
    ·intro a w175 h176 s177 hat hF
     exact Z4 hat rfl (Z2 rfl Z4y) s177.sub (by exact rfl)
    ·intro a w175 h176 s177 hat hF
     have ob178 := (ob131.step0 s177)
     exact Z4 (Z1 hat (hF 0 94 rfl rfl)) rfl (Z8 rfl Z3l (OB.cell ob178 (j := 3) rfl)) s177.sub (by exact rfl)
    ·intro a w175 h176 s177 hat hF
     exact Z4 (Z1 hat (hF 1 95 rfl rfl)) rfl (Zs rfl rfl hl172) s177.sub (by exact rfl)
    ·intro a w175 h176 s177 hat hF
     exact Z4 hat rfl (Z2 rfl Z0z) s177.sub (by exact rfl)
    ·intro a w175 h176 s177 hat hF
     have ob179 := (ob131.step0 s177)
     exact Z4 (Z1 hat (hF 3 97 rfl rfl)) rfl (Z8 rfl Z0h (OB.cell ob179 (j := 5) rfl)) s177.sub (by exact rfl)
    intro a w175 h176 s177 hat hF
    refine Z0n (Z1 hat (hF 4 98 rfl rfl)) rfl (Zi (vs := [v4, .string b'103, .func (.func 27) #[] #[]]) rfl t_ent_57) ((IH _ (Nat.le_refl _)).2.2 hr174 s177.sub (rs5.mono ((s9.le).trans ((s25.le).trans ((s36.le).trans ((le129).trans s177.le)))))) ?_
    rintro _ w180 ⟨h181, s182, rfl⟩
    exact ⟨_, h181, rfl, s182, (by exact rfl)⟩
   intro a w175 h176 s177 hat hF
   obtain hv0 := hF 0 94 (by decide) rfl
   obtain hv1 := hF 1 95 (by decide) rfl
   obtain hv2 := hF 2 96 (by decide) rfl
   obtain hv3 := hF 3 97 (by decide) rfl
   obtain hv4 := hF 4 98 (by decide) rfl
   obtain hv5 := hF 5 99 (by decide) rfl
   refine Z7u [(99, .string r173), (98, v4), (97, pt b7 5), (96, .string (x1.s ++ b'99)), (95, .string x1.s), (94, pt b7 3), (1, pt b7 0)] (Z1 (Z1 (Z1 (Z1 (Z1 (Z1 hat hv0) hv1) hv2) hv3) hv4) hv5) ?_
   have S183 := S130.trans0 s177
   obtain ⟨hl184, HF⟩ := Zj HF
   refine Wv rfl (Zs rfl rfl hl184) ?_
   obtain ⟨hl185, HF⟩ := Zj HF
   refine Wv rfl (Zs rfl rfl hl185) <| Wa rfl rfl <| Z7 <| Z5 <| Z09 <| Z03 <| Zp <| Zt rfl rfl ?_
   obtain rfl := Option.some.inj HF
   exact ⟨_, rfl, h176, S183, rfl⟩
  refine Zm <| Zv <| Z06 [1] _ rfl ?_
  exact J191 ⟨h127, HF, rfl, S130, Hle.refl _, ob131⟩
 intro J192
 refine Z0c <| Z04 (fun E w45 => ∃ (h44 : Hp) (x48 : Bool), Zdw k (Zz k) x1 r17 x48 = some r ∧ E = [(1, pt b7 0), (3, pt b19 0), (4, .bool r17.isSome), (5, .func (.func 56) #[] #[]), (15, .bool x48)] ∧ Stp [] w0 h0 w45 h44 ∧ Hle h24 h44 ∧ OB w45 h44 b7 32 [vi x1.op, vi x1.kind, vi x1.n, .string x1.s, .string x1.f, v4] ∧ OB w45 h44 b19 91 [.string ((r17.getD (Z2c, 0)).1), vi ((r17.getD (Z2c, 0)).2)]) ?_ ?_
 ·rintro E w45 ⟨h44, x48, HF, rfl, S47, le46, ob49, ob50⟩
  refine Z12 HF rfl (fun HF => ?_) (fun HF => ?_)
  ·refine Za ?_
   obtain ⟨A52, c53, rfl, rs54⟩ := RS.form (rs5.mono ((s9.le).trans ((s25.le).trans ((s36.le).trans le46))))
   obtain ⟨e55, he56, HF⟩ := Z6 HF
   obtain ⟨b57, o58, rfl, h60, h61, ra59⟩ := RS.atO rs54 he56
   obtain ⟨cs62, r63, hc64⟩ := ra59
   obtain ⟨r65, hr66, HF⟩ := Z6 HF
   refine Z2z (m := 10) [(1, pt b7 0), (3, pt b19 0), (5, .func (.func 56) #[] #[])] [1, 3, 5] rfl (fun i v w h => match i with | 0 => v = pt b19 0 | 1 => v = .string ((r17.getD (Z2c, 0)).1) | 2 => v = .func (.func 56) #[] #[] | 3 => v = pt b7 5 | 4 => v = sl b57 o58 (x1.args).length c53 | 5 => v = pt b57 (o58 + Int.toNat 0 * 6) | 6 => v = .agg cs62.toArray | 7 => v = pt b19 1 | 8 => v = vi ((r17.getD (Z2c, 0)).2) | 9 => v = .string r65 | _ => True) Z4c S47.sub rfl rfl rfl rfl rfl ?_ ?_ ?_
   ·intro i v w h w2 h2 hΦ hst
    match i, hΦ with
    | 0, hΦ | 1, hΦ | 2, hΦ | 3, hΦ | 4, hΦ | 5, hΦ | 6, hΦ | 7, hΦ | 8, hΦ | 9, hΦ => exact hΦ
    | i + 10, _ => exact trivial
   ·refine ⟨?_, ?_, ?_, ?_, ?_, ?_, ?_, ?_, ?_, ?_, trivial⟩
    ·intro a w67 h68 s69 hat hF
     exact Z4 hat rfl (Z2 rfl t_field_91_0) s69.sub (by exact rfl)
    ·intro a w67 h68 s69 hat hF
     have ob70 := (ob50.step0 s69)
     exact Z4 (Z1 hat (hF 0 23 rfl rfl)) rfl (Z8 rfl Z3l (OB.cell ob70 (j := 0) rfl)) s69.sub (by exact rfl)
    ·intro a w67 h68 s69 hat hF
     exact Z4 hat rfl (Z0j rfl) s69.sub (by exact rfl)
    ·intro a w67 h68 s69 hat hF
     exact Z4 hat rfl (Z2 rfl Z0z) s69.sub (by exact rfl)
    ·intro a w67 h68 s69 hat hF
     have ob71 := (ob49.step0 s69)
     exact Z4 (Z1 hat (hF 3 26 rfl rfl)) rfl (Z8 rfl Z0h (OB.cell ob71 (j := 5) rfl)) s69.sub (by exact rfl)
    ·intro a w67 h68 s69 hat hF
     exact Z4 (Z1 hat (hF 4 27 rfl rfl)) rfl (Zk rfl rfl Zx Zu h60 h61) s69.sub (by exact rfl)
    ·intro a w67 h68 s69 hat hF
     exact Z4 (Z1 hat (hF 5 28 rfl rfl)) rfl (Z0w (cs := cs62) rfl Z1u (by rw [Rp.len (Rp.mono (s69.le) r63)]; exact Zu) (fun j v hv => s69.sub.at_ _ _ _ ((fun i v hv => (s69.le).1 _ _ _ (hc64 i v hv)) j v hv))) s69.sub (by exact rfl)
    ·intro a w67 h68 s69 hat hF
     exact Z4 hat rfl (Z2 rfl Zez) s69.sub (by exact rfl)
    ·intro a w67 h68 s69 hat hF
     have ob72 := (ob50.step0 s69)
     exact Z4 (Z1 hat (hF 7 30 rfl rfl)) rfl (Z8 rfl Z0t (OB.cell ob72 (j := 1) rfl)) s69.sub (by exact rfl)
    intro a w67 h68 s69 hat hF
    refine Z0n (Z1 (Z1 (Z1 hat (hF 2 25 rfl rfl)) (hF 6 29 rfl rfl)) (hF 8 31 rfl rfl)) rfl (oc_val (vs := [.agg cs62.toArray, vi ((r17.getD (Z2c, 0)).2)]) (caps := []) rfl rfl t_ent_56) ((IH _ (Nat.le_refl _)).2.1 hr66 s69.sub (Rp.mono (s69.le) r63)) ?_
    rintro _ w73 ⟨h74, s75, rfl⟩
    exact ⟨_, h74, rfl, s75, (by exact rfl)⟩
   intro a w67 h68 s69 hat hF
   obtain hv0 := hF 0 23 (by decide) rfl
   obtain hv1 := hF 1 24 (by decide) rfl
   obtain hv2 := hF 2 25 (by decide) rfl
   obtain hv3 := hF 3 26 (by decide) rfl
   obtain hv4 := hF 4 27 (by decide) rfl
   obtain hv5 := hF 5 28 (by decide) rfl
   obtain hv6 := hF 6 29 (by decide) rfl
   obtain hv7 := hF 7 30 (by decide) rfl
   obtain hv8 := hF 8 31 (by decide) rfl
   obtain hv9 := hF 9 32 (by decide) rfl
   refine Z7u [(32, .string r65), (31, vi ((r17.getD (Z2c, 0)).2)), (30, pt b19 1), (29, .agg cs62.toArray), (28, pt b57 (o58 + Int.toNat 0 * 6)), (27, sl b57 o58 (x1.args).length c53), (26, pt b7 5), (25, .func (.func 56) #[] #[]), (24, .string ((r17.getD (Z2c, 0)).1)), (23, pt b19 0), (1, pt b7 0), (3, pt b19 0), (5, .func (.func 56) #[] #[])] (Z1 (Z1 (Z1 (Z1 (Z1 (Z1 (Z1 (Z1 (Z1 (Z1 hat hv0) hv1) hv2) hv3) hv4) hv5) hv6) hv7) hv8) hv9) ?_
   have S76 := S47.trans0 s69
   obtain ⟨hl77, HF⟩ := Zj HF
   refine Wv rfl (Zs rfl rfl hl77) <| Wa rfl rfl <| Z7 <| Z5 <| Z09 <| Z03 <| Zp <| Zt rfl rfl ?_
   obtain rfl := Option.some.inj HF
   exact ⟨_, rfl, h68, S76, rfl⟩
  refine Za <| Z0 <| Wm rfl rfl <| Wa rfl rfl <| Z7 <| Z5 <| Z12 HF rfl (fun HF => ?_) (fun HF => ?_)
  ·refine Za ?_
   obtain ⟨A79, c80, rfl, rs81⟩ := RS.form (rs5.mono ((s9.le).trans ((s25.le).trans ((s36.le).trans le46))))
   obtain ⟨e82, he83, HF⟩ := Z6 HF
   obtain ⟨b84, o85, rfl, h87, h88, ra86⟩ := RS.atO rs81 he83
   obtain ⟨cs89, r90, hc91⟩ := ra86
   obtain ⟨r92, hr93, HF⟩ := Z6 HF
   obtain ⟨hl94, HF⟩ := Zj HF
   obtain ⟨hl95, HF⟩ := Zj HF
   obtain ⟨hl96, HF⟩ := Zj HF
   obtain ⟨e97, he98, HF⟩ := Z6 HF
   obtain ⟨b99, o100, hA, h102, h103, ra101⟩ := RS.atO rs81 he98
   obtain ⟨rfl, rfl⟩ := Z5m hA
   obtain ⟨cs104, r105, hc106⟩ := ra101
   obtain ⟨r107, hr108, HF⟩ := Z6 HF
   refine Z2z (m := 22) [(1, pt b7 0), (3, pt b19 0), (5, .func (.func 56) #[] #[])] [1, 3, 5] rfl (fun i v w h => match i with | 0 => v = .func (.func 56) #[] #[] | 1 => v = pt b7 5 | 2 => v = sl b84 o85 (x1.args).length c80 | 3 => v = pt b84 (o85 + Int.toNat 0 * 6) | 4 => v = .agg cs89.toArray | 5 => v = pt b19 1 | 6 => v = vi ((r17.getD (Z2c, 0)).2) | 7 => v = .string r92 | 8 => v = .string (r92 ++ b'98) | 9 => v = pt b19 0 | 10 => v = .string ((r17.getD (Z2c, 0)).1) | 11 => v = .string ((r92 ++ b'98) ++ ((r17.getD (Z2c, 0)).1)) | 12 => v = .string (((r92 ++ b'98) ++ ((r17.getD (Z2c, 0)).1)) ++ b'98) | 13 => v = .func (.func 56) #[] #[] | 14 => v = pt b7 5 | 15 => v = sl b84 o85 (x1.args).length c80 | 16 => v = pt b84 (o85 + Int.toNat 1 * 6) | 17 => v = .agg cs104.toArray | 18 => v = pt b19 1 | 19 => v = vi ((r17.getD (Z2c, 0)).2) | 20 => v = vi (IntKind.i64.wrap (((r17.getD (Z2c, 0)).2) + 1)) | 21 => v = .string r107 | _ => True) Z4c S47.sub rfl rfl rfl rfl rfl ?_ ?_ ?_
   ·intro i v w h w2 h2 hΦ hst
    match i, hΦ with
    | 0, hΦ | 1, hΦ | 2, hΦ | 3, hΦ | 4, hΦ | 5, hΦ | 6, hΦ | 7, hΦ | 8, hΦ | 9, hΦ | 10, hΦ | 11, hΦ | 12, hΦ | 13, hΦ | 14, hΦ | 15, hΦ | 16, hΦ | 17, hΦ | 18, hΦ | 19, hΦ | 20, hΦ | 21, hΦ => exact hΦ
    | i + 22, _ => exact trivial
   ·refine ⟨?_, ?_, ?_, ?_, ?_, ?_, ?_, ?_, ?_, ?_, ?_, ?_, ?_, ?_, ?_, ?_, ?_, ?_, ?_, ?_, ?_, ?_, trivial⟩
    ·intro a w109 h110 s111 hat hF
     exact Z4 hat rfl (Z0j rfl) s111.sub (by exact rfl)
    ·intro a w109 h110 s111 hat hF
     exact Z4 hat rfl (Z2 rfl Z0z) s111.sub (by exact rfl)
    ·intro a w109 h110 s111 hat hF
     have ob112 := (ob49.step0 s111)
     exact Z4 (Z1 hat (hF 1 37 rfl rfl)) rfl (Z8 rfl Z0h (OB.cell ob112 (j := 5) rfl)) s111.sub (by exact rfl)
    ·intro a w109 h110 s111 hat hF
     exact Z4 (Z1 hat (hF 2 38 rfl rfl)) rfl (Zk rfl rfl Zx Zu h87 h88) s111.sub (by exact rfl)
    ·intro a w109 h110 s111 hat hF
     exact Z4 (Z1 hat (hF 3 39 rfl rfl)) rfl (Z0w (cs := cs89) rfl Z1u (by rw [Rp.len (Rp.mono (s111.le) r90)]; exact Zu) (fun j v hv => s111.sub.at_ _ _ _ ((fun i v hv => (s111.le).1 _ _ _ (hc91 i v hv)) j v hv))) s111.sub (by exact rfl)
    ·intro a w109 h110 s111 hat hF
     exact Z4 hat rfl (Z2 rfl Zez) s111.sub (by exact rfl)
    ·intro a w109 h110 s111 hat hF
     have ob113 := (ob50.step0 s111)
     exact Z4 (Z1 hat (hF 5 41 rfl rfl)) rfl (Z8 rfl Z0t (OB.cell ob113 (j := 1) rfl)) s111.sub (by exact rfl)
    ·intro a w109 h110 s111 hat hF
     refine Z0n (Z1 (Z1 (Z1 hat (hF 0 36 rfl rfl)) (hF 4 40 rfl rfl)) (hF 6 42 rfl rfl)) rfl (oc_val (vs := [.agg cs89.toArray, vi ((r17.getD (Z2c, 0)).2)]) (caps := []) rfl rfl t_ent_56) ((IH _ (Nat.le_refl _)).2.1 hr93 s111.sub (Rp.mono (s111.le) r90)) ?_
     rintro _ w114 ⟨h115, s116, rfl⟩
     exact ⟨_, h115, rfl, s116, (by exact rfl)⟩
    ·intro a w109 h110 s111 hat hF
     exact Z4 (Z1 hat (hF 7 43 rfl rfl)) rfl (Zs rfl rfl hl94) s111.sub (by exact rfl)
    ·intro a w109 h110 s111 hat hF
     exact Z4 hat rfl (Z2 rfl t_field_91_0) s111.sub (by exact rfl)
    ·intro a w109 h110 s111 hat hF
     have ob117 := (ob50.step0 s111)
     exact Z4 (Z1 hat (hF 9 45 rfl rfl)) rfl (Z8 rfl Z3l (OB.cell ob117 (j := 0) rfl)) s111.sub (by exact rfl)
    ·intro a w109 h110 s111 hat hF
     exact Z4 (Z1 (Z1 hat (hF 8 44 rfl rfl)) (hF 10 46 rfl rfl)) rfl (Zs rfl rfl hl95) s111.sub (by exact rfl)
    ·intro a w109 h110 s111 hat hF
     exact Z4 (Z1 hat (hF 11 47 rfl rfl)) rfl (Zs rfl rfl hl96) s111.sub (by exact rfl)
    ·intro a w109 h110 s111 hat hF
     exact Z4 hat rfl (Z0j rfl) s111.sub (by exact rfl)
    ·intro a w109 h110 s111 hat hF
     exact Z4 hat rfl (Z2 rfl Z0z) s111.sub (by exact rfl)
    ·intro a w109 h110 s111 hat hF
     have ob118 := (ob49.step0 s111)
     exact Z4 (Z1 hat (hF 14 50 rfl rfl)) rfl (Z8 rfl Z0h (OB.cell ob118 (j := 5) rfl)) s111.sub (by exact rfl)
    ·intro a w109 h110 s111 hat hF
     exact Z4 (Z1 hat (hF 15 51 rfl rfl)) rfl (Zk rfl rfl Zx Zu h102 h103) s111.sub (by exact rfl)
    ·intro a w109 h110 s111 hat hF
     exact Z4 (Z1 hat (hF 16 52 rfl rfl)) rfl (Z0w (cs := cs104) rfl Z1u (by rw [Rp.len (Rp.mono (s111.le) r105)]; exact Zu) (fun j v hv => s111.sub.at_ _ _ _ ((fun i v hv => (s111.le).1 _ _ _ (hc106 i v hv)) j v hv))) s111.sub (by exact rfl)
    ·intro a w109 h110 s111 hat hF
     exact Z4 hat rfl (Z2 rfl Zez) s111.sub (by exact rfl)
    ·intro a w109 h110 s111 hat hF
     have ob119 := (ob50.step0 s111)
     exact Z4 (Z1 hat (hF 18 54 rfl rfl)) rfl (Z8 rfl Z0t (OB.cell ob119 (j := 1) rfl)) s111.sub (by exact rfl)
    ·intro a w109 h110 s111 hat hF
     exact Z4 (Z1 hat (hF 19 55 rfl rfl)) rfl (Z2v rfl rfl) s111.sub (by exact rfl)
    intro a w109 h110 s111 hat hF
    refine Z0n (Z1 (Z1 (Z1 hat (hF 13 49 rfl rfl)) (hF 17 53 rfl rfl)) (hF 20 56 rfl rfl)) rfl (oc_val (vs := [.agg cs104.toArray, vi (IntKind.i64.wrap (((r17.getD (Z2c, 0)).2) + 1))]) (caps := []) rfl rfl t_ent_56) ((IH _ (Nat.le_refl _)).2.1 hr108 s111.sub (Rp.mono (s111.le) r105)) ?_
    rintro _ w120 ⟨h121, s122, rfl⟩
    exact ⟨_, h121, rfl, s122, (by exact rfl)⟩
   intro a w109 h110 s111 hat hF
   obtain hv0 := hF 0 36 (by decide) rfl
   obtain hv1 := hF 1 37 (by decide) rfl
   obtain hv2 := hF 2 38 (by decide) rfl
   obtain hv3 := hF 3 39 (by decide) rfl
   obtain hv4 := hF 4 40 (by decide) rfl
   obtain hv5 := hF 5 41 (by decide) rfl
   obtain hv6 := hF 6 42 (by decide) rfl
   obtain hv7 := hF 7 43 (by decide) rfl
   obtain hv8 := hF 8 44 (by decide) rfl
   obtain hv9 := hF 9 45 (by decide) rfl
   obtain hv10 := hF 10 46 (by decide) rfl
   obtain hv11 := hF 11 47 (by decide) rfl
   obtain hv12 := hF 12 48 (by decide) rfl
   obtain hv13 := hF 13 49 (by decide) rfl
   obtain hv14 := hF 14 50 (by decide) rfl
   obtain hv15 := hF 15 51 (by decide) rfl
   obtain hv16 := hF 16 52 (by decide) rfl
   obtain hv17 := hF 17 53 (by decide) rfl
   obtain hv18 := hF 18 54 (by decide) rfl
   obtain hv19 := hF 19 55 (by decide) rfl
   obtain hv20 := hF 20 56 (by decide) rfl
   obtain hv21 := hF 21 57 (by decide) rfl
   refine Z7u [(57, .string r107), (56, vi (IntKind.i64.wrap (((r17.getD (Z2c, 0)).2) + 1))), (55, vi ((r17.getD (Z2c, 0)).2)), (54, pt b19 1), (53, .agg cs104.toArray), (52, pt b84 (o85 + Int.toNat 1 * 6)), (51, sl b84 o85 (x1.args).length c80), (50, pt b7 5), (49, .func (.func 56) #[] #[]), (48, .string (((r92 ++ b'98) ++ ((r17.getD (Z2c, 0)).1)) ++ b'98)), (47, .string ((r92 ++ b'98) ++ ((r17.getD (Z2c, 0)).1))), (46, .string ((r17.getD (Z2c, 0)).1)), (45, pt b19 0), (44, .string (r92 ++ b'98)), (43, .string r92), (42, vi ((r17.getD (Z2c, 0)).2)), (41, pt b19 1), (40, .agg cs89.toArray), (39, pt b84 (o85 + Int.toNat 0 * 6)), (38, sl b84 o85 (x1.args).length c80), (37, pt b7 5), (36, .func (.func 56) #[] #[]), (1, pt b7 0), (3, pt b19 0), (5, .func (.func 56) #[] #[])] (Z1 (Z1 (Z1 (Z1 (Z1 (Z1 (Z1 (Z1 (Z1 (Z1 (Z1 (Z1 (Z1 (Z1 (Z1 (Z1 (Z1 (Z1 (Z1 (Z1 (Z1 (Z1 hat hv0) hv1) hv2) hv3) hv4) hv5) hv6) hv7) hv8) hv9) hv10) hv11) hv12) hv13) hv14) hv15) hv16) hv17) hv18) hv19) hv20) hv21) ?_
   have S123 := S47.trans0 s111
   obtain ⟨hl124, HF⟩ := Zj HF
   refine Wv rfl (Zs rfl rfl hl124) <| Wa rfl rfl <| Z7 <| Z5 <| Z09 <| Z03 <| Zp <| Zt rfl rfl ?_
   obtain rfl := Option.some.inj HF
   exact ⟨_, rfl, h110, S123, rfl⟩
  refine Zm <| Zv <| Z06 [1] _ rfl ?_
  exact J192 ⟨h44, HF, rfl, S47, le46, ob49⟩
 intro J125
 refine Z0 <| Wm rfl rfl <| Wm rfl rfl <| Z2m 17 HF rfl (fun HF => ?_) (fun HF => ?_)
 ·refine Wv rfl (Z2 rfl Z0z) ?_
  have ob40 := ((ob10.step0 s25).step1 s36 ne21)
  refine Wv rfl (Z8 rfl Z0h (OB.cell ob40 (j := 5) rfl)) ?_
  obtain ⟨A41, c42, rfl, rs43⟩ := RS.form (rs5.mono ((s9.le).trans ((s25.le).trans s36.le)))
  refine Wv rfl (Z0v rfl Zx) <| Wv rfl (Z0y rfl rfl) <| Wv rfl (Zh rfl rfl) <| Wa rfl rfl <| Z7 <| Z06 [1, 3, 4, 5, 15] _ rfl ?_
  exact J125 ⟨h24, ((x1.args.length : Int) : Int) == 1, HF, rfl, S38, Hle.refl _, ob40, ob37⟩
 refine Wp rfl <| Wp rfl <| Wp rfl <| Wp rfl <| Wv rfl (Zf rfl rfl) <| Wa rfl rfl <| Z7 ?_
 have ob126 := ((ob10.step0 s25).step1 s36 ne21)
 refine Z06 [1, 3, 4, 5, 15] _ rfl ?_
 exact J125 ⟨h24, false, HF, rfl, S38, Hle.refl _, ob126, ob37⟩
theorem s_print_Of_1 (k : Nat) (IH : ∀ j, j ≤ k → Ze0 (Zz j).print_Of ∧ Zb2 (Zz j).print_Of_1 ∧ Z3a (Zz j).print_Joined_api_Expr) : Zb2 (Zcm k (Zz k)) := by
 intro x1 x4 r HF w0 h0 cs2 hs0 r3
 have S0 : Stp [] w0 h0 w0 h0 := Stp.refl hs0 _
 refine Z66 (n := 33) Tryz.func56 rfl Tryz.ntmps56 rfl [(0, .agg cs2.toArray), (1, vi x4)] rfl <| Za <| Z0 ?_
 obtain ⟨v5, rfl, rs6⟩ := rp_Ex.1 r3
 refine Zd2 (cs := [vi x1.op, vi x1.kind, vi x1.n, .string x1.s, .string x1.f, v5]) rfl rfl rfl rfl S0.sub (fun w7 b8 hb9 s10 ob11 => ?_)
 have g12 : w0.heap.size ≤ b8 := by rw [hb9]; exact S0.size
 have S13 := S0.trans0 s10
 refine Wa rfl rfl <| Z7 <| Z5 <| Z04 (fun E w65 => ∃ (h64 : Hp), print_Of_1_j2 k (Zz k) x1 = some r ∧ E = [(2, pt b8 0)] ∧ Stp [] w0 h0 w65 h64 ∧ Hle h0 h64 ∧ OB w65 h64 b8 32 [vi x1.op, vi x1.kind, vi x1.n, .string x1.s, .string x1.f, v5]) ?_ ?_
 ·rintro E w65 ⟨h64, HF, rfl, S67, le66, ob68⟩
  refine Za <| Z0 <| Wv rfl (Z0w (cs := [vi x1.op, vi x1.kind, vi x1.n, .string x1.s, .string x1.f, v5]) rfl Z1u Zu (OB.cells ob68 0 rfl)) ?_
  obtain ⟨r69, hr70, HF⟩ := Z6 HF
  refine Wc rfl (Zi (vs := [.agg #[vi x1.op, vi x1.kind, vi x1.n, .string x1.s, .string x1.f, v5]]) rfl Z9f) ((IH _ (Nat.le_refl _)).1 hr70 S67.sub (rp_Ex.2 ⟨_, rfl, (rs6.mono ((s10.le).trans le66))⟩)) ?_
  rintro _ w72 ⟨h73, s74, rfl⟩
  have S75 := S67.trans0 s74
  refine Wa rfl rfl <| Z7 <| Z5 <| Z09 <| Zt rfl rfl ?_
  obtain rfl := Option.some.inj HF
  exact ⟨_, rfl, h73, S75, rfl⟩
 intro J76
 refine Za ?_
 obtain ⟨r14, hr15, HF⟩ := Z6 HF
 obtain ⟨r18, hr19, HF⟩ := Z6 HF
 replace hr19 := Option.some.inj hr19
 refine WC.drawnF (m := 8) [(1, vi x4), (2, pt b8 0)] [1, 2] [6] rfl (fun i v w h => match i with | 0 => ∃ (v16 : Value), v = v16 ∧ RM (fun x : ByteArray × Int => .agg #[.string x.1, vi x.2]) h v16 r14 | 1 => v = pt b8 0 | 2 => v = vi x1.op | 3 => v = .tuple #[.agg #[.string ((r18.getD (Z2c, 0)).1), vi ((r18.getD (Z2c, 0)).2)], .bool r18.isSome] | 4 => v = .tuple #[.agg #[.string ((r18.getD (Z2c, 0)).1), vi ((r18.getD (Z2c, 0)).2)], .bool r18.isSome] | 5 => v = .agg #[.string ((r18.getD (Z2c, 0)).1), vi ((r18.getD (Z2c, 0)).2)] | 6 => v = .bool r18.isSome | 7 => ∃ (b20 : Nat), v = pt b20 0 ∧ OB w h b20 91 [.string Z2c, vi 0] ∧ w0.heap.size ≤ b20 ∧ b8 ≠ b20 | _ => True) Z4c S13.sub rfl rfl rfl rfl rfl rfl rfl ?_ ?_ ?_
 ·intro i v w h w2 h2 hΦ hst
  match i, hΦ with
  | 1, hΦ | 2, hΦ | 3, hΦ | 4, hΦ | 5, hΦ | 6, hΦ => exact hΦ
  | 0, ⟨v16, hv0, rm17⟩ => exact ⟨v16, hv0, rm17.mono hst.le⟩
  | 7, ⟨b20, hv7, ob21, g23, ne22⟩ => exact ⟨b20, hv7, ob21.step0 hst, g23, ne22⟩
  | i + 8, _ => exact trivial
 ·refine (FrontsF.front rfl ?_ (FrontsF.front rfl ?_ (FrontsF.front rfl ?_ (FrontsF.front rfl ?_ (FrontsF.front rfl ?_ (FrontsF.front rfl ?_ (FrontsF.float rfl ?_ (FrontsF.front rfl ?_ FrontsF.nil))))))))
  ·intro a w24 h25 s26 hat hF
   refine Z0n hat rfl (Zi (vs := []) rfl t_ent_55) (ok_print_signs _ hr15 s26.sub) ?_
   rintro v16 w27 ⟨h28, s29, rm17⟩
   exact ⟨_, h28, rfl, s29, (by exact ⟨v16, rfl, rm17⟩)⟩
  ·intro a w24 h25 s26 hat hF
   exact Z4 hat rfl (Z2 rfl Z2d) s26.sub (by exact rfl)
  ·intro a w24 h25 s26 hat hF
   have ob30 := (ob11.step0 s26)
   exact Z4 (Z1 hat (hF 1 9 rfl rfl)) rfl (Z8 rfl Z0t (OB.cell ob30 (j := 0) rfl)) s26.sub (by exact rfl)
  ·intro a w24 h25 s26 hat hF
   obtain ⟨v16, hv0, rm17⟩ := hF 0 8 rfl rfl
   exact Z4 (Z1 (Z1 hat hv0) (hF 2 10 rfl rfl)) rfl (ov_lookupI2 (evl := (fun x : ByteArray × Int => .agg #[.string x.1, vi x.2])) (z := (Z2c, 0)) rfl rfl Z7j Z9o Z4p rm17 s26.sub hr19) s26.sub (by exact rfl)
  ·intro a w24 h25 s26 hat hF
   exact Z4 (Z1 hat (hF 3 11 rfl rfl)) rfl (Z0j rfl) s26.sub (by exact rfl)
  ·intro a w24 h25 s26 hat hF
   exact Z4 (Z1 hat (hF 4 7 rfl rfl)) rfl (Z1a rfl rfl) s26.sub (by exact rfl)
  ·intro a w24 h25 ww s26 hat hF
   exact front_float (Z1 hat (hF 4 7 rfl rfl)) rfl (Z1a rfl rfl) (by exact rfl)
  intro a w24 h25 s26 hat hF
  have ob34 := (ob11.step0 s26)
  exact front_alloc (zs := [.string Z2c, vi 0]) hat rfl Z4p rfl s26.sub (fun w33 b20 hb31 s32 ob21 => ⟨b20, rfl, ob21, by rw [hb31]; exact Nat.le_trans S13.size s26.size, ob34.ne_new hb31⟩)
 intro a w24 h25 s26 hat hF
 obtain ⟨v16, hv0, rm17⟩ := hF 0 8 (by decide) rfl rfl
 obtain hv1 := hF 1 9 (by decide) rfl rfl
 obtain hv2 := hF 2 10 (by decide) rfl rfl
 obtain hv3 := hF 3 11 (by decide) rfl rfl
 obtain hv4 := hF 4 7 (by decide) rfl rfl
 obtain hv5 := hF 5 12 (by decide) rfl rfl
 obtain ⟨b20, hv7, ob21, g23, ne22⟩ := hF 7 5 (by decide) rfl rfl
 have S35 := S13.trans0 s26
 refine F.store [(5, pt b20 0), (12, .agg #[.string ((r18.getD (Z2c, 0)).1), vi ((r18.getD (Z2c, 0)).2)]), (7, .tuple #[.agg #[.string ((r18.getD (Z2c, 0)).1), vi ((r18.getD (Z2c, 0)).2)], .bool r18.isSome]), (11, .tuple #[.agg #[.string ((r18.getD (Z2c, 0)).1), vi ((r18.getD (Z2c, 0)).2)], .bool r18.isSome]), (10, vi x1.op), (9, pt b8 0), (8, v16), (1, vi x4), (2, pt b8 0)] (Z1 (Z1 (Z1 (Z1 (Z1 (Z1 (Z1 hat hv0) hv1) hv2) hv3) hv4) hv5) hv7) rfl (vs := [.string ((r18.getD (Z2c, 0)).1), vi ((r18.getD (Z2c, 0)).2)]) rfl rfl rfl t_size_91 (Z0d rfl (Z0d rfl Z76)) ob21 S35.sub (by simp) (ds := [.string ((r18.getD (Z2c, 0)).1), vi ((r18.getD (Z2c, 0)).2)]) rfl (fun w36 s37 ob38 a2 hat2 hG => ?_)
 have S39 := S35.trans1 s37 (.inr g23)
 obtain hv6 := hG 6 13 (by decide) rfl rfl
 refine Z7u [(13, .bool r18.isSome), (5, pt b20 0), (12, .agg #[.string ((r18.getD (Z2c, 0)).1), vi ((r18.getD (Z2c, 0)).2)]), (7, .tuple #[.agg #[.string ((r18.getD (Z2c, 0)).1), vi ((r18.getD (Z2c, 0)).2)], .bool r18.isSome]), (11, .tuple #[.agg #[.string ((r18.getD (Z2c, 0)).1), vi ((r18.getD (Z2c, 0)).2)], .bool r18.isSome]), (10, vi x1.op), (9, pt b8 0), (8, v16), (1, vi x4), (2, pt b8 0)] (Z1 hat2 hv6) <| Wa rfl rfl <| Z7 <| Z5 <| Z04 (fun E w47 => ∃ (h46 : Hp) (x50 : Bool), Z9r k (Zz k) x1 x50 = some r ∧ E = [(2, pt b8 0), (26, .bool x50)] ∧ Stp [] w0 h0 w47 h46 ∧ Hle h25 h46 ∧ OB w47 h46 b8 32 [vi x1.op, vi x1.kind, vi x1.n, .string x1.s, .string x1.f, v5]) ?_ ?_
 ·rintro E w47 ⟨h46, x50, HF, rfl, S49, le48, ob51⟩
  refine Z12 HF rfl (fun HF => ?_) (fun HF => ?_)
  ·refine Za <| Z0 <| Wv rfl (Z0w (cs := [vi x1.op, vi x1.kind, vi x1.n, .string x1.s, .string x1.f, v5]) rfl Z1u Zu (OB.cells ob51 0 rfl)) ?_
   obtain ⟨r53, hr54, HF⟩ := Z6 HF
   refine Wc rfl (Zi (vs := [.agg #[vi x1.op, vi x1.kind, vi x1.n, .string x1.s, .string x1.f, v5]]) rfl Z9f) ((IH _ (Nat.le_refl _)).1 hr54 S49.sub (rp_Ex.2 ⟨_, rfl, (rs6.mono ((s10.le).trans ((s26.le).trans ((s37.le).trans le48))))⟩)) ?_
   rintro _ w56 ⟨h57, s58, rfl⟩
   have S59 := S49.trans0 s58
   obtain ⟨hl60, HF⟩ := Zj HF
   refine Wv rfl (Zs rfl rfl hl60) ?_
   obtain ⟨hl61, HF⟩ := Zj HF
   refine Wv rfl (Zs rfl rfl hl61) <| Wa rfl rfl <| Z7 <| Z5 <| Z09 <| Zp <| Zt rfl rfl ?_
   obtain rfl := Option.some.inj HF
   exact ⟨_, rfl, h57, S59, rfl⟩
  refine Zm <| Z06 [2] _ rfl ?_
  exact J76 ⟨h46, HF, rfl, S49, (s26.le).trans ((s37.le).trans le48), ob51⟩
 intro J62
 refine Z0 <| Wm rfl rfl <| Wm rfl rfl <| Z2m 15 HF rfl (fun HF => ?_) (fun HF => ?_)
 ·refine Wv rfl (Z2 rfl Z0z) ?_
  have ob41 := ((ob11.step0 s26).step1 s37 ne22)
  refine Wv rfl (Z8 rfl Z0h (OB.cell ob41 (j := 5) rfl)) ?_
  obtain ⟨A42, c43, rfl, rs44⟩ := RS.form (rs6.mono ((s10.le).trans ((s26.le).trans s37.le)))
  refine Wv rfl (Z0v rfl Zx) <| Wv rfl (Z0y rfl rfl) <| Wv rfl (Zh rfl rfl) <| Wm rfl rfl <| Z2m 21 HF rfl (fun HF => ?_) (fun HF => ?_)
  ·refine Wv rfl (Z2 rfl Zez) <| Wv rfl (Z8 rfl Z0t (OB.cell ob38 (j := 1) rfl)) <| Wm rfl rfl <| Wv rfl (Z6q rfl rfl) <| Wv rfl (Zh rfl rfl) <| Z7 <| Z06 [2, 26] _ rfl ?_
   exact J62 ⟨h25, decide ((((r18.getD (Z2c, 0)).2) : Int) < x4), HF, rfl, S39, Hle.refl _, ob41⟩
  refine Wp rfl <| Wp rfl <| Wp rfl <| Wp rfl <| Wv rfl (Zf rfl rfl) <| Z7 <| Z06 [2, 26] _ rfl ?_
  exact J62 ⟨h25, false, HF, rfl, S39, Hle.refl _, ob41⟩
 refine Wp rfl <| Wp rfl <| Wp rfl <| Wp rfl <| Wv rfl (Zf rfl rfl) <| Wm rfl rfl <| Wp rfl <| Wp rfl <| Wp rfl <| Wp rfl <| Wv rfl (Zf rfl rfl) <| Z7 ?_
 have ob63 := ((ob11.step0 s26).step1 s37 ne22)
 refine Z06 [2, 26] _ rfl ?_
 exact J62 ⟨h25, false, HF, rfl, S39, Hle.refl _, ob63⟩
theorem Zfa (k : Nat) (IH : ∀ j, j ≤ k → Ze0 (Zz j).print_Of ∧ Zb2 (Zz j).print_Of_1 ∧ Z3a (Zz j).print_Joined_api_Expr) : Z3a (Z7l k (Zz k)) := by
 intro xs1 x4 r HF w0 h0 v2 hs0 rs3
 have S0 : Stp [] w0 h0 w0 h0 := Stp.refl hs0 _
 refine Z66 (n := 26) Tryz.func57 rfl Tryz.ntmps57 rfl [(0, v2), (1, .string x4), (2, .func (.func 27) #[] #[])] rfl <| Za <| Z0 <| Wa rfl rfl <| Z7 <| Z5 <| Za <| Z0 <| Wa rfl rfl <| Z7 <| Z5 <| Za <| Za <| Z0 <| Wm rfl rfl ?_
 obtain ⟨A5, c6, rfl, rs7⟩ := RS.form rs3
 refine Wv rfl (Z0v rfl Zx) <| Wm rfl rfl <| Z7 <| Z5 <| Z0c <| Z4j <| Z8e [1, 2, 7, 10, 11, 12] [(1, .string x4), (2, .func (.func 27) #[] #[]), (7, .slice none 0 0), (10, .slice A5 (xs1).length c6), (11, vi (xs1.length : Int)), (12, vi 0)] rfl <| Z4m (K := k) (fun j E w9 => ∃ (h8 : Hp) (xs12 : List ByteArray) (v13 : Value) (x16 : Int), (Zz j).print_Joined_api_Expr_l1 xs1 x4 xs12 x16 = some r ∧ E = [(1, .string x4), (2, .func (.func 27) #[] #[]), (7, v13), (10, .slice A5 (xs1).length c6), (11, vi (xs1.length : Int)), (12, vi x16)] ∧ Stp [] w0 h0 w9 h8 ∧ Hle h0 h8 ∧ RS h8 v13 xs12 ∧ Own w9 h8 w0.heap.size 9 1 v13 xs12.length) ?_ ?_ (j := k) (Nat.le_refl _) ?_
 ·rintro E w9 ⟨_, _, _, _, HF, _⟩; cases HF
 ·rintro j17 hj19 IHL18 E w9 ⟨h8, xs12, v13, x16, HF, rfl, S11, le10, rs14, ow15⟩
  refine Za <| Z0 <| Wv rfl (Z6q rfl rfl) <| Z7 <| Z5 <| Z04 (fun E w29 => ∃ (h28 : Hp) (xs32 : List ByteArray) (v33 : Value), Z6x j17 (Zz j17) xs1 x4 x16 xs32 = some r ∧ E = [(1, .string x4), (2, .func (.func 27) #[] #[]), (7, v33), (10, .slice A5 (xs1).length c6), (11, vi (xs1.length : Int)), (12, vi x16)] ∧ Stp [] w0 h0 w29 h28 ∧ Hle h8 h28 ∧ RS h28 v33 xs32 ∧ Own w29 h28 w0.heap.size 9 1 v33 xs32.length) ?_ ?_
  ·rintro E w29 ⟨h28, xs32, v33, HF, rfl, S31, le30, rs34, ow35⟩
   refine Za <| Z0c <| Za <| Z0 ?_
   obtain ⟨e36, he37, HF⟩ := Z6 HF
   obtain ⟨b38, o39, rfl, h41, h42, ra40⟩ := RS.atO (rs7.mono ((le10).trans le30)) he37
   obtain ⟨cs43, r44, hc45⟩ := ra40
   refine Wv rfl (Zk rfl rfl Zx Zu h41 h42) <| Wv rfl (Z0w (cs := cs43) rfl Z1u (by rw [Rp.len r44]; exact Zu) (fun j v hv => S31.sub.at_ _ _ _ (hc45 j v hv))) <| Za3 (zs := [vi 0, vi 0, vi 0, .string Z2c, .string Z2c, .slice none 0 0]) rfl rfl Zcd rfl S31.sub (fun w46 b47 hb48 s49 ob50 => ?_)
   have g51 : w0.heap.size ≤ b47 := by rw [hb48]; exact S31.size
   have S52 := S31.trans0 s49
   obtain ⟨v53, rfl, rs54⟩ := rp_Ex.1 (Rp.mono (s49.le) r44)
   refine Z5i (vs := [vi e36.op, vi e36.kind, vi e36.n, .string e36.s, .string e36.f, v53]) rfl rfl rfl rfl Zu (Z0d rfl (Z0d rfl (Z0d rfl (Z0d rfl (Z0d rfl (Z0d (RS.one rs54) Z76)))))) ob50 S52.sub (by simp) (ds := [vi e36.op, vi e36.kind, vi e36.n, .string e36.s, .string e36.f, v53]) rfl (fun w55 s56 ob57 => ?_)
   have S58 := S52.trans1 s56 (.inr g51)
   refine Z7 <| Z5 <| Z0 <| Wm rfl rfl <| Wm rfl rfl <| Wv rfl (Z0w (cs := [vi e36.op, vi e36.kind, vi e36.n, .string e36.s, .string e36.f, v53]) rfl Z1u Zu (OB.cells ob57 0 rfl)) ?_
   obtain ⟨r59, hr60, HF⟩ := Z6 HF
   refine Wc rfl (oc_val (vs := [.agg #[vi e36.op, vi e36.kind, vi e36.n, .string e36.s, .string e36.f, v53]]) (caps := []) rfl rfl Z9f) ((IH _ (Nat.le_trans (Nat.le_of_succ_le hj19) (Nat.le_refl _))).1 hr60 S58.sub (rp_Ex.2 ⟨_, rfl, (rs54.mono (s56.le))⟩)) ?_
   rintro _ w62 ⟨h63, s64, rfl⟩
   have S65 := S58.trans0 s64
   have ob73 := (ob57.step0 s64)
   refine Z3d (us := [.string r59]) (cs := [.string r59]) rfl rfl rfl Z26 Z6k Zeq rfl (Z0i rfl cl_nil) rfl rfl rfl S65.sub (fun w66 h67 b68 hb69 s70 hk71 hc72 => ?_)
   have S74 := S65.trans0 s70
   have rs75 : RS h67 (sl b68 0 1 1) ([r59] : List ByteArray) := RS.litL _ [[.string r59]] rfl rfl hc72 ⟨rfl, trivial⟩
   have ow76 := Own.lit (base := w0.heap.size) (sz := 1) (m := 1) hk71 hc72 (by rw [hb69]; exact S65.size) rfl (by decide)
   obtain ⟨hl77, HF⟩ := Zj HF
   have ob85 := (ob73.step0 s70)
   refine WL.append (xs := (xs32 : List ByteArray)) (ys := [r59]) rfl rfl rfl rfl Z26 Z6k Zeq rfl t_bytes_9 rfl ((((ow35.step0 s49).step s56 (Z8c ((ow35.step0 s49).ne_ob ob50 (by decide)) Zct)).step0 s64).step0 s70) (rs34.mono ((s49.le).trans ((s56.le).trans ((s64.le).trans s70.le)))) rs75 hl77 S74.sub S74.size (by rw [S74.eqb]; exact hs0.big) (fun v78 w79 h80 rs81 ow82 s83 at84 => ?_)
   have S86 := S74.trans s83 (fun i hi => .inr (((((ow35.step0 s49).step s56 (Z8c ((ow35.step0 s49).ne_ob ob50 (by decide)) Zct)).step0 s64).step0 s70).base_le i hi))
   refine Wa rfl rfl <| Z7 <| Zv <| Z5 <| Z0 <| Wv rfl (Z2v rfl rfl) <| Wm rfl rfl <| Z7 <| Z2x <| Z8e [1, 2, 7, 10, 11, 12] [(1, .string x4), (2, .func (.func 27) #[] #[]), (7, v78), (10, sl b38 o39 (xs1).length c6), (11, vi (xs1.length : Int)), (12, vi (IntKind.i64.wrap (x16 + 1)))] rfl ?_
   exact IHL18 j17 (Nat.le_refl _) _ _ ⟨h80, xs32 ++ [r59], v78, IntKind.i64.wrap (x16 + 1), HF, rfl, S86, (le10).trans ((le30).trans ((s49.le).trans ((s56.le).trans ((s64.le).trans ((s70.le).trans s83.le))))), rs81, ow82⟩
  intro J87
  refine Z12 HF rfl (fun HF => ?_) (fun HF => ?_)
  ·refine Zm <| Z06 [1, 2, 7, 10, 11, 12] _ rfl ?_
   exact J87 ⟨h8, xs12, v13, HF, rfl, S11, Hle.refl _, rs14, ow15⟩
  refine Z4b <| Zr <| Zr <| Z0x <| Z5 <| Za <| Z0 <| Wm rfl rfl <| Wm rfl rfl ?_
  obtain ⟨r21, hr22, HF⟩ := Z6 HF
  refine Wc rfl (Zi (vs := [v13, .string x4]) rfl t_ent_67) (Zbf _ hr22 S11.sub rs14) ?_
  rintro _ w24 ⟨h25, s26, rfl⟩
  have S27 := S11.trans0 s26
  refine Wa rfl rfl <| Z7 <| Z5 <| Z09 <| Zt rfl rfl ?_
  obtain rfl := Option.some.inj HF
  exact ⟨_, rfl, h25, S27, rfl⟩
 exact ⟨h0, ([] : List ByteArray), .slice none 0 0, 0, HF, rfl, S0, Hle.refl _, (RS.nil _), (Own.nil _ _ _ _ _)⟩
theorem all_print_Of : ∀ k j, j ≤ k → Ze0 (Zz j).print_Of ∧ Zb2 (Zz j).print_Of_1 ∧ Z3a (Zz j).print_Joined_api_Expr := by
  intro k
  induction k with
  | zero =>
    intro j hj
    obtain rfl : j = 0 := by omega
    exact ⟨(fun _ _ => by intro h; cases h), (fun _ _ _ => by intro h; cases h), (fun _ _ _ => by intro h; cases h)⟩
  | succ k ih =>
    intro j hj
    by_cases h : j ≤ k
    · exact ih j h
    · obtain rfl : j = k + 1 := by omega
      exact ⟨s_print_Of k ih, s_print_Of_1 k ih, Zfa k ih⟩
theorem Z6o (k : Nat) : Ze0 (Z1t k) := (all_print_Of k k (Nat.le_refl _)).1
theorem ok_print_Of_1 (k : Nat) : Zb2 (F_print_Of_1 k) := (all_print_Of k k (Nat.le_refl _)).2.1
theorem ok_print_Joined_api_Expr (k : Nat) : Z3a (Zas k) := (all_print_Of k k (Nat.le_refl _)).2.2

def Zd4 (φ : Bool → (List UInt8) → ByteArray → Option Bool) : Prop := ∀ ⦃x2 : Bool⦄ ⦃xs3 : List UInt8⦄ ⦃x9 : ByteArray⦄ ⦃r : Bool⦄, φ x2 xs3 x9 = some r → ∀ ⦃w0 : World⦄ ⦃h0 : Hp⦄ ⦃b1 : Nat⦄ ⦃A4 : Option Addr⦄ ⦃c5 : Nat⦄, Sub h0 w0 → RS h0 (.slice A4 xs3.length c5) xs3 → Own w0 h0 h0.base 5 1 (.slice A4 xs3.length c5) xs3.length → OB w0 h0 b1 55 [.pointer (bif x2 then some ⟨b1, 0, none⟩ else none), .slice A4 xs3.length c5, .string x9] → (5 : Nat) ≠ 55 →
  Calls Tryz.prog 88 #[.pointer (some ⟨b1, 0, none⟩)] w0 fun e w1 => ∃ v, e = .returned v ∧ ∃ h1, Stp [b1] w0 h0 w1 h1 ∧ v = .tuple #[] ∧ (OB w1 h1 b1 55 [.pointer (bif r then some ⟨b1, 0, none⟩ else none), .slice A4 xs3.length c5, .string x9])
theorem Zcn (k : Nat) : Zd4 (Z41 k) := by
  intro x2 xs3 x9 r HF w0 h0 b1 A4 c5 hs0 rs6 ow7 ob10 tn11
  simp only [Z41] at HF
  cases HF
  cases x2 with
  | true =>
    refine (Any.Builder_copyCheck_used tryz240 Tryz.Builder_Extra_156.toX72 b1 w0 (OB.cell ob10 (j := 0) rfl)).mono ?_
    rintro e w1 ⟨rfl, rfl⟩
    exact ⟨_, rfl, h0, Stp.refl hs0 _, rfl, ob10⟩
  | false =>
    refine (YtaknpdhmhifpeaaGreatDoor.copyCheck_freshIn tryz240 Tryz.Builder_Extra_156.toX72 b1 55 3 w0 (OB.cell ob10 (j := 0) rfl) (OB.shape ob10) (by decide) (by kernel_rfl) (OB.unfrozen ob10)).mono ?_
    rintro e w1 ⟨rfl, rfl⟩
    have e1 := setCell_ob ob10 (.pointer (some ⟨b1, 0, none⟩)) (by simp)
    refine ⟨_, rfl, h0, ?_, rfl, ?_⟩
    · rw [e1]; exact setRow_stp hs0 ob10 _
    · rw [e1]; exact setRow_ob ob10 _

def Z7s (φ : Bool → (List UInt8) → ByteArray → ByteArray → Option (Int × Unit × Bool × List UInt8)) : Prop := ∀ ⦃x2 : Bool⦄ ⦃xs3 : List UInt8⦄ ⦃x9 : ByteArray⦄ ⦃x11 : ByteArray⦄ ⦃r : Int × Unit × Bool × List UInt8⦄, φ x2 xs3 x9 x11 = some r → ∀ ⦃w0 : World⦄ ⦃h0 : Hp⦄ ⦃b1 : Nat⦄ ⦃A4 : Option Addr⦄ ⦃c5 : Nat⦄, Sub h0 w0 → RS h0 (.slice A4 xs3.length c5) xs3 → Own w0 h0 h0.base 5 1 (.slice A4 xs3.length c5) xs3.length → OB w0 h0 b1 55 [.pointer (bif x2 then some ⟨b1, 0, none⟩ else none), .slice A4 xs3.length c5, .string x9] → (5 : Nat) ≠ 55 →
  Calls Tryz.prog 66 #[.pointer (some ⟨b1, 0, none⟩), .string x11] w0 fun e w1 => ∃ v, e = .returned v ∧ ∃ h1, Stp (b1 :: ((Value.slice A4 xs3.length c5).ownBlock.toList ++ [])) w0 h0 w1 h1 ∧ (∃ u0 u1 : Value, v = .tuple #[u0, u1] ∧ (u0 = .int .i64 r.1) ∧ (u1 = .nilIface)) ∧ (∃ y0 : Value, RS h1 y0 r.2.2.2 ∧ Own w1 h1 h0.base 5 1 y0 r.2.2.2.length ∧ (∀ i ∈ y0.ownBlock.toList, i ∈ (Value.slice A4 xs3.length c5).ownBlock.toList ∨ w0.heap.size ≤ i) ∧ OB w1 h1 b1 55 [.pointer (bif r.2.2.1 then some ⟨b1, 0, none⟩ else none), y0, .string x9])
theorem Zce (k : Nat) : Z7s (Z3k k) := by
 intro x2 xs3 x9 x11 r HF w0 h0 b1 A4 c5 hs0 rs6 ow7 ob10 tn12
 have S0 : Stp (b1 :: ((Value.slice A4 xs3.length c5).ownBlock.toList ++ [])) w0 h0 w0 h0 := Stp.refl hs0 _
 have om8 : ∀ i ∈ (Value.slice A4 xs3.length c5).ownBlock.toList, i ∈ (Value.slice A4 xs3.length c5).ownBlock.toList ∨ w0.heap.size ≤ i := fun i hi => .inl hi
 have lt13 : b1 < w0.heap.size := OB.lt ob10
 refine Z66 (n := 19) Tryz.func66 rfl Tryz.ntmps66 rfl [(0, pt b1 0), (1, .string x11)] rfl <| Za <| Z0 <| Wa rfl rfl <| Wa rfl rfl <| Z7 <| Z5 <| Za <| Z0 <| Wm rfl rfl ?_
 obtain ⟨r14, hr15, HF⟩ := Z6 HF
 refine Wc rfl (Zi (vs := [pt b1 0]) rfl t_ent_88) (Zcn _ hr15 S0.sub rs6 (by rw [S0.eqb]; exact ow7) ob10 tn12) ?_
 rintro v16 w17 ⟨h18, s19, rfl, ob20⟩
 have S21 := S0.trans s19 (Zy (.inl (by simp)) Z0q)
 refine Z7 <| Z5 <| Za <| Z0 <| Wm rfl rfl <| Wm rfl rfl <| Wv rfl (Z02 rfl) <| Wv rfl (Z2 rfl Zed) <| Wv rfl (Z8 rfl t_agg_49 (OB.cell ob20 (j := 1) rfl)) <| Wm rfl rfl ?_
 obtain ⟨hl22, HF⟩ := Zj HF
 refine WL.appendS (xs := (xs3 : List UInt8)) (s := x11) rfl rfl rfl rfl Z84 Z3b t_size_5 t_zero_5 t_bytes_5 rfl (ow7.step s19 (Z8c (ow7.ne_ob ob10 tn12) Zct)) (rs6.mono (s19.le)) hl22 S21.sub (by have := S21.sub.big; rw [S21.eqb] at this; exact this) (by rw [S21.eqb]; exact Nat.le_refl _) (fun v23 w24 h25 rs26 ow27 s28 at29 => ?_)
 have om30 := om_next at29 om8 S21.size
 have S31 := S21.trans s28 (fun i hi => (om8 i hi).elim (fun q => .inl (by simp only [List.mem_cons, List.mem_append]; simp [q])) .inr)
 refine Wv rfl (Z02 rfl) <| Wv rfl (Z2 rfl Zed) ?_
 have ob32 := (ob20.step s28 (fun hm => (ow7.step s19 (Z8c (ow7.ne_ob ob10 tn12) Zct)).ne ob20 tn12 _ hm rfl))
 refine Z5i (vs := [v23]) rfl rfl rfl (RS.cellsL rs26) t_size_49 (Z0d (RS.one rs26) Z76) ob32 S31.sub (by simp) (ds := [.pointer (bif r14 then some ⟨b1, 0, none⟩ else none), v23, .string x9]) rfl (fun w33 s34 ob35 => ?_)
 have S36 := S31.trans1 s34 (.inl (by simp))
 refine Z7 <| Z5 <| Za <| Z0 <| Wm rfl rfl <| Wv rfl (ov_lenS rfl Z3b) <| Wa rfl rfl <| Wa rfl rfl <| Z7 <| Z5 <| Z09 <| Z94 rfl rfl rfl ?_
 obtain rfl := Option.some.inj HF
 exact ⟨_, rfl, h25, S36, ⟨_, _, rfl, rfl, rfl⟩, ⟨_, (rs26.mono (s34.le)), (ow27.step s34 (Z8c (ow27.ne_ob ob32 tn12) Zct)), om30, ob35⟩⟩
theorem Zby (k : Nat) : Z7s (Z3k k) := Zce k

def Ze3 (φ : Bool → (List UInt8) → ByteArray → ByteArray → Option (Bool × List UInt8)) : Prop := ∀ ⦃x2 : Bool⦄ ⦃xs3 : List UInt8⦄ ⦃x9 : ByteArray⦄ ⦃x11 : ByteArray⦄ ⦃r : Bool × List UInt8⦄, φ x2 xs3 x9 x11 = some r → ∀ ⦃w0 : World⦄ ⦃h0 : Hp⦄ ⦃b1 : Nat⦄ ⦃A4 : Option Addr⦄ ⦃c5 : Nat⦄, Sub h0 w0 → RS h0 (.slice A4 xs3.length c5) xs3 → Own w0 h0 h0.base 5 1 (.slice A4 xs3.length c5) xs3.length → OB w0 h0 b1 55 [.pointer (bif x2 then some ⟨b1, 0, none⟩ else none), .slice A4 xs3.length c5, .string x9] → (5 : Nat) ≠ 55 →
  Calls Tryz.prog 39 #[.pointer (some ⟨b1, 0, none⟩), .string x11] w0 fun e w1 => ∃ v, e = .returned v ∧ ∃ h1, Stp (b1 :: ((Value.slice A4 xs3.length c5).ownBlock.toList ++ [])) w0 h0 w1 h1 ∧ v = .tuple #[] ∧ (∃ y0 : Value, RS h1 y0 r.2 ∧ Own w1 h1 h0.base 5 1 y0 r.2.length ∧ (∀ i ∈ y0.ownBlock.toList, i ∈ (Value.slice A4 xs3.length c5).ownBlock.toList ∨ w0.heap.size ≤ i) ∧ OB w1 h1 b1 55 [.pointer (bif r.1 then some ⟨b1, 0, none⟩ else none), y0, .string x9])
theorem s_print_lines_line (k : Nat) : Ze3 (Z08 k) := by
 intro x2 xs3 x9 x11 r HF w0 h0 b1 A4 c5 hs0 rs6 ow7 ob10 tn12
 have S0 : Stp (b1 :: ((Value.slice A4 xs3.length c5).ownBlock.toList ++ [])) w0 h0 w0 h0 := Stp.refl hs0 _
 have om8 : ∀ i ∈ (Value.slice A4 xs3.length c5).ownBlock.toList, i ∈ (Value.slice A4 xs3.length c5).ownBlock.toList ∨ w0.heap.size ≤ i := fun i hi => .inl hi
 have lt13 : b1 < w0.heap.size := OB.lt ob10
 refine Z66 (n := 15) Tryz.func39 rfl Tryz.ntmps39 rfl [(0, pt b1 0), (1, .string x11)] rfl ?_
 obtain ⟨hl14, HF⟩ := Zj HF
 obtain ⟨hl15, HF⟩ := Zj HF
 refine Z2z (m := 10) [(0, pt b1 0), (1, .string x11)] [0, 1] rfl (fun i v w h => match i with | 0 => v = pt b1 0 | 1 => v = pt b1 0 | 2 => v = pt b1 0 | 3 => v = pt b1 0 | 4 => v = pt b1 0 | 5 => v = pt b1 2 | 6 => v = .string x9 | 7 => v = .string x11 | 8 => v = .string (x9 ++ x11) | 9 => v = .string ((x9 ++ x11) ++ b'45) | _ => True) Z4c S0.sub rfl rfl rfl rfl rfl ?_ ?_ ?_
 ·intro i v w h w2 h2 hΦ hst
  match i, hΦ with
  | 0, hΦ | 1, hΦ | 2, hΦ | 3, hΦ | 4, hΦ | 5, hΦ | 6, hΦ | 7, hΦ | 8, hΦ | 9, hΦ => exact hΦ
  | i + 10, _ => exact trivial
 ·refine ⟨?_, ?_, ?_, ?_, ?_, ?_, ?_, ?_, ?_, ?_, trivial⟩
  ·intro a w16 h17 s18 hat hF
   exact Z4 hat rfl (Z0j rfl) s18.sub (by exact rfl)
  ·intro a w16 h17 s18 hat hF
   exact Z4 (Z1 hat (hF 0 4 rfl rfl)) rfl (Z02 rfl) s18.sub (by exact rfl)
  ·intro a w16 h17 s18 hat hF
   exact Z4 (Z1 hat (hF 1 5 rfl rfl)) rfl (Z2 rfl t_field_53_0) s18.sub (by exact rfl)
  ·intro a w16 h17 s18 hat hF
   exact Z4 hat rfl (Z0j rfl) s18.sub (by exact rfl)
  ·intro a w16 h17 s18 hat hF
   exact Z4 (Z1 hat (hF 3 7 rfl rfl)) rfl (Z02 rfl) s18.sub (by exact rfl)
  ·intro a w16 h17 s18 hat hF
   exact Z4 (Z1 hat (hF 4 8 rfl rfl)) rfl (Z2 rfl Z9h) s18.sub (by exact rfl)
  ·intro a w16 h17 s18 hat hF
   have ob19 := (ob10.step0 s18)
   exact Z4 (Z1 hat (hF 5 9 rfl rfl)) rfl (Z8 rfl Z3l (OB.cell ob19 (j := 2) rfl)) s18.sub (by exact rfl)
  ·intro a w16 h17 s18 hat hF
   exact Z4 hat rfl (Z0j rfl) s18.sub (by exact rfl)
  ·intro a w16 h17 s18 hat hF
   exact Z4 (Z1 (Z1 hat (hF 6 10 rfl rfl)) (hF 7 11 rfl rfl)) rfl (Zs rfl rfl hl14) s18.sub (by exact rfl)
  intro a w16 h17 s18 hat hF
  exact Z4 (Z1 hat (hF 8 12 rfl rfl)) rfl (Zs rfl rfl hl15) s18.sub (by exact rfl)
 intro a w16 h17 s18 hat hF
 obtain hv0 := hF 0 4 (by decide) rfl
 obtain hv1 := hF 1 5 (by decide) rfl
 obtain hv2 := hF 2 6 (by decide) rfl
 obtain hv3 := hF 3 7 (by decide) rfl
 obtain hv4 := hF 4 8 (by decide) rfl
 obtain hv5 := hF 5 9 (by decide) rfl
 obtain hv6 := hF 6 10 (by decide) rfl
 obtain hv7 := hF 7 11 (by decide) rfl
 obtain hv8 := hF 8 12 (by decide) rfl
 obtain hv9 := hF 9 13 (by decide) rfl
 refine Z7u [(13, .string ((x9 ++ x11) ++ b'45)), (12, .string (x9 ++ x11)), (11, .string x11), (10, .string x9), (9, pt b1 2), (8, pt b1 0), (7, pt b1 0), (6, pt b1 0), (5, pt b1 0), (4, pt b1 0), (0, pt b1 0), (1, .string x11)] (Z1 (Z1 (Z1 (Z1 (Z1 (Z1 (Z1 (Z1 (Z1 (Z1 hat hv0) hv1) hv2) hv3) hv4) hv5) hv6) hv7) hv8) hv9) ?_
 have S20 := S0.trans0 s18
 have ob21 := (ob10.step0 s18)
 obtain ⟨r22, hr23, HF⟩ := Z6 HF
 refine Wc rfl (Zi (vs := [pt b1 0, .string ((x9 ++ x11) ++ b'45)]) rfl t_ent_66) (Zby _ hr23 S20.sub (rs6.mono (s18.le)) (by rw [S20.eqb]; exact (ow7.step0 s18)) ob21 tn12) ?_
 rintro _ w25 ⟨h26, s27, ⟨_, _, rfl, rfl, rfl⟩, ⟨v28, rs29, ow30, om31, ob34⟩⟩
 have ow32 := Own.rb ow30 S20.eqb
 have om33 : ∀ i ∈ v28.ownBlock.toList, i ∈ (Value.slice A4 xs3.length c5).ownBlock.toList ∨ w0.heap.size ≤ i := fun i hi => (om31 i hi).elim (fun q => om8 i q) (fun q => .inr (Nat.le_trans S20.size q))
 have S35 := S20.trans s27 (Zy (.inl (by simp)) (Z7v (fun i hi => (om8 i hi).elim (fun q => .inl (by simp only [List.mem_cons, List.mem_append]; simp [q])) .inr) Z0q))
 refine Z7 <| Z5v rfl ?_
 obtain rfl := Option.some.inj HF
 exact ⟨_, rfl, h26, S35, rfl, ⟨_, rs29, ow32, om33, ob34⟩⟩
theorem Z0p (k : Nat) : Ze3 (Z08 k) := s_print_lines_line k

def Z8g (φ : (List Int) → ByteArray → Option ByteArray) : Prop := ∀ ⦃xs1 : List Int⦄ ⦃x4 : ByteArray⦄ ⦃r : ByteArray⦄, φ xs1 x4 = some r → ∀ ⦃w0 : World⦄ ⦃h0 : Hp⦄ ⦃v2 : Value⦄, Sub h0 w0 → RS h0 v2 xs1 →
  Calls Tryz.prog 45 #[v2, .string x4, .func (.func 36) #[] #[]] w0 fun e w1 => ∃ v, e = .returned v ∧ ∃ h1, Stp [] w0 h0 w1 h1 ∧ v = .string r
theorem s_print_Joined_int (k : Nat) (IH : ∀ j, j ≤ k → Z8g (Z1c j).print_Joined_int) : Z8g (Zaw k (Z1c k)) := by
 intro xs1 x4 r HF w0 h0 v2 hs0 rs3
 have S0 : Stp [] w0 h0 w0 h0 := Stp.refl hs0 _
 refine Z66 (n := 26) Tryz.func45 rfl Tryz.ntmps45 rfl [(0, v2), (1, .string x4), (2, .func (.func 36) #[] #[])] rfl <| Za <| Z0 <| Wa rfl rfl <| Z7 <| Z5 <| Za <| Z0 <| Wa rfl rfl <| Z7 <| Z5 <| Za <| Za <| Z0 <| Wm rfl rfl ?_
 obtain ⟨A5, c6, rfl, rs7⟩ := RS.form rs3
 refine Wv rfl (Z0v rfl Z43) <| Wm rfl rfl <| Z7 <| Z5 <| Z0c <| Z4j <| Z8e [1, 2, 7, 10, 11, 12] [(1, .string x4), (2, .func (.func 36) #[] #[]), (7, .slice none 0 0), (10, .slice A5 (xs1).length c6), (11, vi (xs1.length : Int)), (12, vi 0)] rfl <| Z4m (K := k) (fun j E w9 => ∃ (h8 : Hp) (xs12 : List ByteArray) (v13 : Value) (x16 : Int), (Z1c j).print_Joined_int_l1 xs1 x4 xs12 x16 = some r ∧ E = [(1, .string x4), (2, .func (.func 36) #[] #[]), (7, v13), (10, .slice A5 (xs1).length c6), (11, vi (xs1.length : Int)), (12, vi x16)] ∧ Stp [] w0 h0 w9 h8 ∧ Hle h0 h8 ∧ RS h8 v13 xs12 ∧ Own w9 h8 w0.heap.size 9 1 v13 xs12.length) ?_ ?_ (j := k) (Nat.le_refl _) ?_
 ·rintro E w9 ⟨_, _, _, _, HF, _⟩; cases HF
 ·rintro j17 hj19 IHL18 E w9 ⟨h8, xs12, v13, x16, HF, rfl, S11, le10, rs14, ow15⟩
  refine Za <| Z0 <| Wv rfl (Z6q rfl rfl) <| Z7 <| Z5 <| Z04 (fun E w29 => ∃ (h28 : Hp) (xs32 : List ByteArray) (v33 : Value), Za1 j17 (Z1c j17) xs1 x4 x16 xs32 = some r ∧ E = [(1, .string x4), (2, .func (.func 36) #[] #[]), (7, v33), (10, .slice A5 (xs1).length c6), (11, vi (xs1.length : Int)), (12, vi x16)] ∧ Stp [] w0 h0 w29 h28 ∧ Hle h8 h28 ∧ RS h28 v33 xs32 ∧ Own w29 h28 w0.heap.size 9 1 v33 xs32.length) ?_ ?_
  ·rintro E w29 ⟨h28, xs32, v33, HF, rfl, S31, le30, rs34, ow35⟩
   refine Za <| Z0c <| Za <| Z0 ?_
   obtain ⟨e36, he37, HF⟩ := Z6 HF
   obtain ⟨b38, o39, rfl, h41, h42, ra40⟩ := RS.atO (rs7.mono ((le10).trans le30)) he37
   obtain ⟨cs43, r44, hc45⟩ := ra40
   obtain rfl := (show cs43 = _ from r44)
   refine Wv rfl (Zk rfl rfl Z43 Zeb h41 h42) <| Wv rfl (Z8 rfl Z0t (S31.sub.at_ _ _ _ (hc45 0 _ rfl))) <| Wa rfl rfl <| Z7 <| Z5 <| Z0 <| Wm rfl rfl <| Wm rfl rfl <| Wm rfl rfl ?_
   obtain ⟨r46, hr47, HF⟩ := Z6 HF
   refine Wc rfl (oc_val (vs := [vi e36]) (caps := []) rfl rfl t_ent_36) (Zbh _ hr47 S31.sub) ?_
   rintro _ w49 ⟨h50, s51, rfl⟩
   have S52 := S31.trans0 s51
   refine Z3d (us := [.string r46]) (cs := [.string r46]) rfl rfl rfl Z26 Z6k Zeq rfl (Z0i rfl cl_nil) rfl rfl rfl S52.sub (fun w53 h54 b55 hb56 s57 hk58 hc59 => ?_)
   have S60 := S52.trans0 s57
   have rs61 : RS h54 (sl b55 0 1 1) ([r46] : List ByteArray) := RS.litL _ [[.string r46]] rfl rfl hc59 ⟨rfl, trivial⟩
   have ow62 := Own.lit (base := w0.heap.size) (sz := 1) (m := 1) hk58 hc59 (by rw [hb56]; exact S52.size) rfl (by decide)
   obtain ⟨hl63, HF⟩ := Zj HF
   refine WL.append (xs := (xs32 : List ByteArray)) (ys := [r46]) rfl rfl rfl rfl Z26 Z6k Zeq rfl t_bytes_9 rfl ((ow35.step0 s51).step0 s57) (rs34.mono ((s51.le).trans s57.le)) rs61 hl63 S60.sub S60.size (by rw [S60.eqb]; exact hs0.big) (fun v64 w65 h66 rs67 ow68 s69 at70 => ?_)
   have S71 := S60.trans s69 (fun i hi => .inr (((ow35.step0 s51).step0 s57).base_le i hi))
   refine Wa rfl rfl <| Z7 <| Zv <| Z5 <| Z0 <| Wv rfl (Z2v rfl rfl) <| Wm rfl rfl <| Z7 <| Z2x <| Z8e [1, 2, 7, 10, 11, 12] [(1, .string x4), (2, .func (.func 36) #[] #[]), (7, v64), (10, sl b38 o39 (xs1).length c6), (11, vi (xs1.length : Int)), (12, vi (IntKind.i64.wrap (x16 + 1)))] rfl ?_
   exact IHL18 j17 (Nat.le_refl _) _ _ ⟨h66, xs32 ++ [r46], v64, IntKind.i64.wrap (x16 + 1), HF, rfl, S71, (le10).trans ((le30).trans ((s51.le).trans ((s57.le).trans s69.le))), rs67, ow68⟩
  intro J72
  refine Z12 HF rfl (fun HF => ?_) (fun HF => ?_)
  ·refine Zm <| Z06 [1, 2, 7, 10, 11, 12] _ rfl ?_
   exact J72 ⟨h8, xs12, v13, HF, rfl, S11, Hle.refl _, rs14, ow15⟩
  refine Z4b <| Zr <| Zr <| Z0x <| Z5 <| Za <| Z0 <| Wm rfl rfl <| Wm rfl rfl ?_
  obtain ⟨r21, hr22, HF⟩ := Z6 HF
  refine Wc rfl (Zi (vs := [v13, .string x4]) rfl t_ent_67) (Zbf _ hr22 S11.sub rs14) ?_
  rintro _ w24 ⟨h25, s26, rfl⟩
  have S27 := S11.trans0 s26
  refine Wa rfl rfl <| Z7 <| Z5 <| Z09 <| Zt rfl rfl ?_
  obtain rfl := Option.some.inj HF
  exact ⟨_, rfl, h25, S27, rfl⟩
 exact ⟨h0, ([] : List ByteArray), .slice none 0 0, 0, HF, rfl, S0, Hle.refl _, (RS.nil _), (Own.nil _ _ _ _ _)⟩
theorem all_print_Joined_int : ∀ k j, j ≤ k → Z8g (Z1c j).print_Joined_int := by
  intro k
  induction k with
  | zero =>
    intro j hj
    obtain rfl : j = 0 := by omega
    exact (fun _ _ _ => by intro h; cases h)
  | succ k ih =>
    intro j hj
    by_cases h : j ≤ k
    · exact ih j h
    · obtain rfl : j = k + 1 := by omega
      exact s_print_Joined_int k ih
theorem ok_print_Joined_int (k : Nat) : Z8g (Z8q k) := (all_print_Joined_int k k (Nat.le_refl _))

def Zcf (φ : (List ByteArray) → (List Ex) → Option ByteArray) : Prop := ∀ ⦃xs1 : List ByteArray⦄ ⦃xs4 : List Ex⦄ ⦃r : ByteArray⦄, φ xs1 xs4 = some r → ∀ ⦃w0 : World⦄ ⦃h0 : Hp⦄ ⦃v2 : Value⦄ ⦃v5 : Value⦄, Sub h0 w0 → RS h0 v2 xs1 → RS h0 v5 xs4 →
  Calls Tryz.prog 40 #[v2, v5] w0 fun e w1 => ∃ v, e = .returned v ∧ ∃ h1, Stp [] w0 h0 w1 h1 ∧ v = .string r
theorem s_print_Inputs (k : Nat) (IH : ∀ j, j ≤ k → Zcf (Z23 j).print_Inputs) : Zcf (Zen k (Z23 k)) := by
 intro xs1 xs4 r HF w0 h0 v2 v5 hs0 rs3 rs6
 have S0 : Stp [] w0 h0 w0 h0 := Stp.refl hs0 _
 refine Z66 (n := 29) Tryz.func40 rfl Tryz.ntmps40 rfl [(0, v2), (1, v5)] rfl <| Za <| Z0 <| Wa rfl rfl <| Z7 <| Z5 <| Za <| Z0 <| Wa rfl rfl <| Z7 <| Z5 <| Za <| Za <| Z0 <| Wm rfl rfl ?_
 obtain ⟨A7, c8, rfl, rs9⟩ := RS.form rs3
 refine Wv rfl (Z0v rfl Z26) <| Wm rfl rfl <| Z7 <| Z5 <| Z0c <| Z4j <| Z8e [1, 5, 8, 9, 10] [(1, v5), (5, .slice none 0 0), (8, .slice A7 (xs1).length c8), (9, vi (xs1.length : Int)), (10, vi 0)] rfl <| Z4m (K := k) (fun j E w11 => ∃ (h10 : Hp) (xs14 : List ByteArray) (v15 : Value) (x18 : Int), (Z23 j).print_Inputs_l1 xs1 xs4 xs14 x18 = some r ∧ E = [(1, v5), (5, v15), (8, .slice A7 (xs1).length c8), (9, vi (xs1.length : Int)), (10, vi x18)] ∧ Stp [] w0 h0 w11 h10 ∧ Hle h0 h10 ∧ RS h10 v15 xs14 ∧ Own w11 h10 w0.heap.size 9 1 v15 xs14.length) ?_ ?_ (j := k) (Nat.le_refl _) ?_
 ·rintro E w11 ⟨_, _, _, _, HF, _⟩; cases HF
 ·rintro j19 hj21 IHL20 E w11 ⟨h10, xs14, v15, x18, HF, rfl, S13, le12, rs16, ow17⟩
  refine Za <| Z0 <| Wv rfl (Z6q rfl rfl) <| Z7 <| Z5 <| Z04 (fun E w31 => ∃ (h30 : Hp) (xs34 : List ByteArray) (v35 : Value), Zdk j19 (Z23 j19) xs1 xs4 x18 xs34 = some r ∧ E = [(1, v5), (5, v35), (8, .slice A7 (xs1).length c8), (9, vi (xs1.length : Int)), (10, vi x18)] ∧ Stp [] w0 h0 w31 h30 ∧ Hle h10 h30 ∧ RS h30 v35 xs34 ∧ Own w31 h30 w0.heap.size 9 1 v35 xs34.length) ?_ ?_
  ·rintro E w31 ⟨h30, xs34, v35, HF, rfl, S33, le32, rs36, ow37⟩
   refine Za <| Z0c <| Za <| Z0 <| Wm rfl rfl ?_
   obtain ⟨e38, he39, HF⟩ := Z6 HF
   obtain ⟨b40, o41, rfl, h43, h44, ra42⟩ := RS.atO (rs9.mono ((le12).trans le32)) he39
   obtain ⟨cs45, r46, hc47⟩ := ra42
   obtain rfl := (show cs45 = _ from r46)
   refine Wv rfl (Zk rfl rfl Z26 Z6k h43 h44) <| Wv rfl (Z8 rfl Z3l (S33.sub.at_ _ _ _ (hc47 0 _ rfl))) <| Wa rfl rfl <| Wa rfl rfl <| Z7 <| Z5 <| Z0 <| Wm rfl rfl <| Wm rfl rfl ?_
   obtain ⟨hl48, HF⟩ := Zj HF
   refine Wv rfl (Zs rfl rfl hl48) <| Wm rfl rfl <| Wm rfl rfl ?_
   obtain ⟨A49, c50, rfl, rs51⟩ := RS.form (rs6.mono ((le12).trans le32))
   obtain ⟨e52, he53, HF⟩ := Z6 HF
   obtain ⟨b54, o55, rfl, h57, h58, ra56⟩ := RS.atO rs51 he53
   obtain ⟨cs59, r60, hc61⟩ := ra56
   refine Wv rfl (Zk rfl rfl Zx Zu h57 h58) <| Wv rfl (Z0w (cs := cs59) rfl Z1u (by rw [Rp.len r60]; exact Zu) (fun j v hv => S33.sub.at_ _ _ _ (hc61 j v hv))) ?_
   obtain ⟨r62, hr63, HF⟩ := Z6 HF
   refine Wc rfl (Zi (vs := [.agg cs59.toArray]) rfl Z9f) (Z6o _ hr63 S33.sub r60) ?_
   rintro _ w65 ⟨h66, s67, rfl⟩
   have S68 := S33.trans0 s67
   obtain ⟨hl69, HF⟩ := Zj HF
   refine Wv rfl (Zs rfl rfl hl69) <| Z3d (us := [.string ((e38 ++ b'96) ++ r62)]) (cs := [.string ((e38 ++ b'96) ++ r62)]) rfl rfl rfl Z26 Z6k Zeq rfl (Z0i rfl cl_nil) rfl rfl rfl S68.sub (fun w70 h71 b72 hb73 s74 hk75 hc76 => ?_)
   have S77 := S68.trans0 s74
   have rs78 : RS h71 (sl b72 0 1 1) ([(e38 ++ b'96) ++ r62] : List ByteArray) := RS.litL _ [[.string ((e38 ++ b'96) ++ r62)]] rfl rfl hc76 ⟨rfl, trivial⟩
   have ow79 := Own.lit (base := w0.heap.size) (sz := 1) (m := 1) hk75 hc76 (by rw [hb73]; exact S68.size) rfl (by decide)
   obtain ⟨hl80, HF⟩ := Zj HF
   refine WL.append (xs := (xs34 : List ByteArray)) (ys := [(e38 ++ b'96) ++ r62]) rfl rfl rfl rfl Z26 Z6k Zeq rfl t_bytes_9 rfl ((ow37.step0 s67).step0 s74) (rs36.mono ((s67.le).trans s74.le)) rs78 hl80 S77.sub S77.size (by rw [S77.eqb]; exact hs0.big) (fun v81 w82 h83 rs84 ow85 s86 at87 => ?_)
   have S88 := S77.trans s86 (fun i hi => .inr (((ow37.step0 s67).step0 s74).base_le i hi))
   refine Wa rfl rfl <| Z7 <| Zv <| Z5 <| Z0 <| Wv rfl (Z2v rfl rfl) <| Wm rfl rfl <| Z7 <| Z2x <| Z8e [1, 5, 8, 9, 10] [(1, sl b54 o55 (xs4).length c50), (5, v81), (8, sl b40 o41 (xs1).length c8), (9, vi (xs1.length : Int)), (10, vi (IntKind.i64.wrap (x18 + 1)))] rfl ?_
   exact IHL20 j19 (Nat.le_refl _) _ _ ⟨h83, xs34 ++ [(e38 ++ b'96) ++ r62], v81, IntKind.i64.wrap (x18 + 1), HF, rfl, S88, (le12).trans ((le32).trans ((s67.le).trans ((s74.le).trans s86.le))), rs84, ow85⟩
  intro J89
  refine Z12 HF rfl (fun HF => ?_) (fun HF => ?_)
  ·refine Zm <| Z06 [1, 5, 8, 9, 10] _ rfl ?_
   exact J89 ⟨h10, xs14, v15, HF, rfl, S13, Hle.refl _, rs16, ow17⟩
  refine Z4b <| Zr <| Zr <| Z0x <| Z5 <| Za <| Z0 <| Wm rfl rfl ?_
  obtain ⟨r23, hr24, HF⟩ := Z6 HF
  refine Wc rfl (Zi (vs := [v15, .string b'103]) rfl t_ent_67) (Zbf _ hr24 S13.sub rs16) ?_
  rintro _ w26 ⟨h27, s28, rfl⟩
  have S29 := S13.trans0 s28
  refine Wa rfl rfl <| Z7 <| Z5 <| Z09 <| Zt rfl rfl ?_
  obtain rfl := Option.some.inj HF
  exact ⟨_, rfl, h27, S29, rfl⟩
 exact ⟨h0, ([] : List ByteArray), .slice none 0 0, 0, HF, rfl, S0, Hle.refl _, (RS.nil _), (Own.nil _ _ _ _ _)⟩
theorem all_print_Inputs : ∀ k j, j ≤ k → Zcf (Z23 j).print_Inputs := by
  intro k
  induction k with
  | zero =>
    intro j hj
    obtain rfl : j = 0 := by omega
    exact (fun _ _ _ => by intro h; cases h)
  | succ k ih =>
    intro j hj
    by_cases h : j ≤ k
    · exact ih j h
    · obtain rfl : j = k + 1 := by omega
      exact s_print_Inputs k ih
theorem ok_print_Inputs (k : Nat) : Zcf (Zci k) := (all_print_Inputs k k (Nat.le_refl _))
end Go.Proofs.YtaknpdhmhifpeaaGreatDoor
