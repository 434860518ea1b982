import Derived.Test.YtkodnhngllfemaaGreatDoorK1
import Derived.Test.YtkodnhngllfemaaGreatDoorLA
set_option linter.unusedVariables false
set_option linter.unusedSimpArgs false
namespace Go.Proofs.YtkodnhngllfemaaGreatDoor
open Go Go.ChangeShapes Go.WideShapes Go.ChangeAt Go.RowKit
theorem cSts : Tryz.prog.cellsOf 22 = 1 := by kernel_rfl
theorem cArs : Tryz.prog.cellsOf 54 = 1 := by kernel_rfl
theorem cStrs : Tryz.prog.cellsOf 53 = 1 := by kernel_rfl
theorem cInts : Tryz.prog.cellsOf 75 = 1 := by kernel_rfl
theorem cSt : Tryz.prog.cellsOf 56 = 10 := by kernel_rfl
theorem cAr : Tryz.prog.cellsOf 77 = 3 := by kernel_rfl
theorem uSts : Tryz.prog.underlying 22 = some (.slice 56) := by kernel_rfl
theorem uArs : Tryz.prog.underlying 54 = some (.slice 77) := by kernel_rfl
theorem uStrs : Tryz.prog.underlying 53 = some (.slice 9) := by kernel_rfl
theorem uInts : Tryz.prog.underlying 75 = some (.slice 3) := by kernel_rfl
theorem read_bool {H : Type} {enc : TypeId × Value → H} {W : World} {base : Nat} {sp : Nat → Bool} {held : Bool} {n : Nat} {cs : List Value} {y : DataW H × List MemPlace} (h : DataW.trod enc Tryz.prog W base sp held n 4 cs = some y) :
    ∃ z : Bool, cs = [.bool z] := by
  obtain ⟨z, rfl, rfl⟩ := DataW.trod_bool Tryz.underlying4 h
  exact ⟨z, rfl⟩
theorem read_exprs {H : Type} {enc : TypeId × Value → H} {W : World} {base : Nat} {sp : Nat → Bool} {held : Bool} {n : Nat} {cs : List Value} {y : DataW H × List MemPlace} (h : DataW.trod enc Tryz.prog W base sp held n 45 cs = some y) :
    ∃ v, ∃ l : List Ex, cs = [v] ∧ RS (hp0 W) v l ∧ l.length < 9223372036854775808 ∧ fitsL l := by
  obtain ⟨v, l, h1, h2, h3, h4⟩ := Zfr (α := Ex) (F := fun _ z => z.fits) uE cE (fun n' cs' y' h' _ => read_expr n' h') h
  refine ⟨v, l, h1, h2, h3, ?_⟩
  rcases h4 with ⟨-, rfl⟩ | ⟨ds, rest, -, hd, hf⟩
  · rw [fitsL]; trivial
  · refine fitsL_of fun a ha => ?_
    obtain ⟨j, hj, rfl⟩ := List.mem_iff_getElem.1 ha
    exact hf j _ _ (List.getElem?_eq_getElem (by omega)) (List.getElem?_eq_getElem hj)
theorem read_strl {H : Type} {enc : TypeId × Value → H} {W : World} {base : Nat} {sp : Nat → Bool} {held : Bool} {n : Nat} {cs : List Value} {y : DataW H × List MemPlace} (h : DataW.trod enc Tryz.prog W base sp held n 53 cs = some y) :
    ∃ v, ∃ l : List ByteArray, cs = [v] ∧ RS (hp0 W) v l ∧ l.length < 9223372036854775808 ∧ ∀ x ∈ l, x.size < 9223372036854775808 := by
  obtain ⟨v, l, h1, h2, h3, h4⟩ := Zfr (α := ByteArray) (F := fun _ z => z.size < 9223372036854775808) uStrs cS (fun n' cs' y' h' _ => by
    obtain ⟨z, q1, -, q2⟩ := read_str h'
    exact ⟨z, q1, q2⟩) h
  refine ⟨v, l, h1, h2, h3, ?_⟩
  rcases h4 with ⟨-, rfl⟩ | ⟨ds, rest, -, hd, hf⟩
  · intro x hx; cases hx
  · intro a ha
    obtain ⟨j, hj, rfl⟩ := List.mem_iff_getElem.1 ha
    exact hf j _ _ (List.getElem?_eq_getElem (by omega)) (List.getElem?_eq_getElem hj)
theorem read_intl {H : Type} {enc : TypeId × Value → H} {W : World} {base : Nat} {sp : Nat → Bool} {held : Bool} {n : Nat} {cs : List Value} {y : DataW H × List MemPlace} (h : DataW.trod enc Tryz.prog W base sp held n 75 cs = some y) :
    ∃ v, ∃ l : List Int, cs = [v] ∧ RS (hp0 W) v l ∧ l.length < 9223372036854775808 ∧ (∀ x ∈ l, -9223372036854775808 ≤ x ∧ x ≤ 9223372036854775807) := by
  obtain ⟨v, l, h1, h2, h3, h4⟩ := Zfr (α := Int) (F := fun _ z => -9223372036854775808 ≤ z ∧ z ≤ 9223372036854775807) uInts cI (fun n' cs' y' h' _ => by
    obtain ⟨z, q1, -, q2⟩ := read_int h'
    exact ⟨z, q1, q2⟩) h
  refine ⟨v, l, h1, h2, h3, ?_⟩
  rcases h4 with ⟨-, rfl⟩ | ⟨ds, rest, e, hd, hf⟩
  · exact fun x hx => (by cases hx)
  · intro a ha
    obtain ⟨j, hj, rfl⟩ := List.mem_iff_getElem.1 ha
    exact hf j _ _ (List.getElem?_eq_getElem (by omega)) (List.getElem?_eq_getElem hj)
theorem fitsSL_of : ∀ {l : List St}, (∀ a ∈ l, a.fits) → fitsSL l
  | [], _ => by rw [fitsSL]; trivial
  | x :: l, h => by rw [fitsSL]; exact ⟨h x (by simp), fitsSL_of fun a ha => h a (by simp [ha])⟩
theorem fitsAL_of : ∀ {l : List Ar}, (∀ a ∈ l, a.fits) → fitsAL l
  | [], _ => by rw [fitsAL]; trivial
  | x :: l, h => by rw [fitsAL]; exact ⟨h x (by simp), fitsAL_of fun a ha => h a (by simp [ha])⟩
theorem read_stmtl {H : Type} {enc : TypeId × Value → H} {W : World} {base : Nat} {sp : Nat → Bool} {held : Bool} {n : Nat} {cs : List Value} {y : DataW H × List MemPlace}
    (rd : ∀ n', n' ≤ n → ∀ cs y, DataW.trod enc Tryz.prog W base sp held n' 56 cs = some y → ∃ z : St, Rp.R (hp0 W) z cs ∧ z.fits) (h : DataW.trod enc Tryz.prog W base sp held n 22 cs = some y) :
    ∃ v, ∃ l : List St, cs = [v] ∧ RS (hp0 W) v l ∧ l.length < 9223372036854775808 ∧ fitsSL l := by
  obtain ⟨v, l, h1, h2, h3, h4⟩ := Zfr (α := St) (F := fun d z => z.fits) uSts cSt (fun n' cs' y' h' hn => rd n' (hn n rfl) cs' y' h') h
  refine ⟨v, l, h1, h2, h3, ?_⟩
  rcases h4 with ⟨-, rfl⟩ | ⟨ds, rest, e, hd, hf⟩
  · rw [fitsSL]; trivial
  · refine fitsSL_of fun a ha => ?_
    obtain ⟨j, hj, rfl⟩ := List.mem_iff_getElem.1 ha
    exact hf j _ _ (List.getElem?_eq_getElem (by omega)) (List.getElem?_eq_getElem hj)
theorem read_arml {H : Type} {enc : TypeId × Value → H} {W : World} {base : Nat} {sp : Nat → Bool} {held : Bool} {n : Nat} {cs : List Value} {y : DataW H × List MemPlace}
    (rd : ∀ n', n' ≤ n → ∀ cs y, DataW.trod enc Tryz.prog W base sp held n' 77 cs = some y → ∃ z : Ar, Rp.R (hp0 W) z cs ∧ z.fits) (h : DataW.trod enc Tryz.prog W base sp held n 54 cs = some y) :
    ∃ v, ∃ l : List Ar, cs = [v] ∧ RS (hp0 W) v l ∧ l.length < 9223372036854775808 ∧ fitsAL l := by
  obtain ⟨v, l, h1, h2, h3, h4⟩ := Zfr (α := Ar) (F := fun d z => z.fits) uArs cAr (fun n' cs' y' h' hn => rd n' (hn n rfl) cs' y' h') h
  refine ⟨v, l, h1, h2, h3, ?_⟩
  rcases h4 with ⟨-, rfl⟩ | ⟨ds, rest, e, hd, hf⟩
  · rw [fitsAL]; trivial
  · refine fitsAL_of fun a ha => ?_
    obtain ⟨j, hj, rfl⟩ := List.mem_iff_getElem.1 ha
    exact hf j _ _ (List.getElem?_eq_getElem (by omega)) (List.getElem?_eq_getElem hj)
theorem three {l : List Value} {a0 a1 a2 : Value} (hl : l.length = 3) (e0 : l[0]? = some a0) (e1 : l[1]? = some a1) (e2 : l[2]? = some a2) : l = [a0, a1, a2] := by
  match l, hl with
  | [b0, b1, b2], _ =>
    simp at e0 e1 e2
    rw [e0, e1, e2]
theorem ten {l : List Value} {a0 a1 a2 a3 a4 a5 a6 a7 a8 a9 : Value} (hl : l.length = 10) (e0 : l[0]? = some a0) (e1 : l[1]? = some a1) (e2 : l[2]? = some a2) (e3 : l[3]? = some a3) (e4 : l[4]? = some a4) (e5 : l[5]? = some a5) (e6 : l[6]? = some a6) (e7 : l[7]? = some a7) (e8 : l[8]? = some a8) (e9 : l[9]? = some a9) : l = [a0, a1, a2, a3, a4, a5, a6, a7, a8, a9] := by
  match l, hl with
  | [b0, b1, b2, b3, b4, b5, b6, b7, b8, b9], _ =>
    simp at e0 e1 e2 e3 e4 e5 e6 e7 e8 e9
    rw [e0, e1, e2, e3, e4, e5, e6, e7, e8, e9]
theorem read_both {H : Type} {enc : TypeId × Value → H} {W : World} {base : Nat} {sp : Nat → Bool} {held : Bool} : ∀ (n : Nat),
    (∀ cs y, DataW.trod enc Tryz.prog W base sp held n 56 cs = some y → ∃ z : St, Rp.R (hp0 W) z cs ∧ z.fits) ∧
    (∀ cs y, DataW.trod enc Tryz.prog W base sp held n 77 cs = some y → ∃ z : Ar, Rp.R (hp0 W) z cs ∧ z.fits) := by
  intro n
  induction n using Nat.strongRecOn with
  | ind n ih =>
    refine ⟨fun cs y h => ?_, fun cs y h => ?_⟩
    · obtain ⟨xs, m, rfl, rfl, hl, hxl, hat⟩ := DataW.trod_struct Tryz.underlying56 h
      rw [cSt] at hl
      have hxl' : xs.length = 10 := hxl
      match xs, hxl' with
      | [y0, y1, y2, y3, y4, y5, y6, y7, y8, y9], _ =>
        obtain ⟨z0, r0, -, -⟩ := read_int (Zal (off := 0) cI (hat 0 _ rfl))
        obtain ⟨z1, r1, -, b1⟩ := read_str (Zal (off := 1) cS (hat 1 _ rfl))
        obtain ⟨v2, z2, r2, s2, b2, f2⟩ := read_exprs (Zal (off := 2) cEs (hat 2 _ rfl))
        obtain ⟨v3, z3, r3, s3, b3, f3⟩ := read_strl (Zal (off := 3) cStrs (hat 3 _ rfl))
        obtain ⟨v4, z4, r4, s4, b4, f4⟩ := read_exprs (Zal (off := 4) cEs (hat 4 _ rfl))
        obtain ⟨z5, r5, -, b5⟩ := read_int (Zal (off := 5) cI (hat 5 _ rfl))
        obtain ⟨v6, z6, r6, s6, b6, f6⟩ := read_stmtl (fun n' hn' => (ih n' (by omega)).1) (Zal (off := 6) cSts (hat 6 _ rfl))
        obtain ⟨v7, z7, r7, s7, b7, f7⟩ := read_arml (fun n' hn' => (ih n' (by omega)).2) (Zal (off := 7) cArs (hat 7 _ rfl))
        obtain ⟨v8, z8, r8, s8, b8, f8⟩ := read_stmtl (fun n' hn' => (ih n' (by omega)).1) (Zal (off := 8) cSts (hat 8 _ rfl))
        obtain ⟨z9, r9⟩ := read_bool (Zal (off := 9) cB (hat 9 _ rfl))
        have e : cs = [.int .i64 z0, .string z1, v2, v3, v4, .int .i64 z5, v6, v7, v8, .bool z9] := ten hl (Z2o r0) (Z2o r1) (Z2o r2) (Z2o r3) (Z2o r4) (Z2o r5) (Z2o r6) (Z2o r7) (Z2o r8) (Z2o r9)
        refine ⟨.mk z0 z1 z2 z3 z4 z5 z6 z7 z8 z9, Zgz.2 ⟨v2, v3, v4, v6, v7, v8, e, s2, s3, s4, s6, s7, s8⟩, ?_⟩
        rw [St.fits]
        exact ⟨b5, b1, ⟨b2, f2⟩, ⟨b3, f3⟩, ⟨b4, f4⟩, ⟨b6, f6⟩, ⟨b7, f7⟩, ⟨b8, f8⟩⟩
    · obtain ⟨xs, m, rfl, rfl, hl, hxl, hat⟩ := DataW.trod_struct Tryz.underlying77 h
      rw [cAr] at hl
      have hxl' : xs.length = 3 := hxl
      match xs, hxl' with
      | [y0, y1, y2], _ =>
        obtain ⟨v0, z0, r0, s0, b0, f0⟩ := read_exprs (Zal (off := 0) cEs (hat 0 _ rfl))
        obtain ⟨v1, z1, r1, s1, b1, f1⟩ := read_intl (Zal (off := 1) cInts (hat 1 _ rfl))
        obtain ⟨v2, z2, r2, s2, b2, f2⟩ := read_stmtl (fun n' hn' => (ih n' (by omega)).1) (Zal (off := 2) cSts (hat 2 _ rfl))
        have e : cs = [v0, v1, v2] := three hl (Z2o r0) (Z2o r1) (Z2o r2)
        refine ⟨.mk z0 z1 z2, rp_Ar.2 ⟨v0, v1, v2, e, s0, s1, s2⟩, ?_⟩
        rw [Ar.fits]
        exact ⟨⟨b0, f0⟩, ⟨b1, f1⟩, ⟨b2, f2⟩⟩
theorem read_text {H : Type} {enc : TypeId × Value → H} {W : World} {base : Nat} {sp : Nat → Bool} {held : Bool} {n : Nat} {cs : List Value} {y : DataW H × List MemPlace} (h : DataW.trod enc Tryz.prog W base sp held n 22 cs = some y) :
    ∃ v, ∃ l : List St, cs = [v] ∧ RS (hp0 W) v l ∧ l.length < 9223372036854775808 ∧ fitsSL l :=
  read_stmtl (fun n' _ => (read_both n').1) h
end Go.Proofs.YtkodnhngllfemaaGreatDoor
