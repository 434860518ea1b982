import Derived.Test.YtkodnhngllfemaaGreatDoorK0
import Derived.Test.YtkodnhngllfemaaGreatDoorLA
import Derived.Deep.Slices
import Derived.Carry
set_option linter.unusedVariables false
set_option linter.unusedSimpArgs false
namespace Go.Proofs.YtkodnhngllfemaaGreatDoor
open Go Go.ChangeShapes Go.WideShapes Go.ChangeAt Go.RowKit
theorem pick_list {α : Type} {Q : Nat → α → Prop} : ∀ n : Nat, (∀ i, i < n → ∃ y, Q i y) → ∃ xs : List α, xs.length = n ∧ ∀ j x, xs[j]? = some x → Q j x
  | 0, _ => ⟨[], rfl, fun j x h => by simp at h⟩
  | n + 1, h => by
    obtain ⟨xs, hl, hx⟩ := pick_list n (fun i hi => h i (by omega))
    obtain ⟨y, hy⟩ := h n (by omega)
    refine ⟨xs ++ [y], by simp [hl], fun j x hj => ?_⟩
    by_cases hjn : j < n
    · rw [List.getElem?_append_left (by omega)] at hj
      exact hx j x hj
    · rw [List.getElem?_append_right (by omega), hl] at hj
      have : j - n = 0 := by
        apply Classical.byContradiction
        intro h0
        rw [List.getElem?_eq_none (by simp; omega)] at hj
        cases hj
      rw [this] at hj
      simp at hj
      subst hj
      rw [show j = n by omega]
      exact hy
theorem maxLen_lt : maxLen < 9223372036854775808 := by decide
theorem Zfr {H : Type} {enc : TypeId × Value → H} {α : Type} [Rp α] {F : DataW H → α → Prop} {t e : TypeId} (ht : Tryz.prog.underlying t = some (.slice e)) (hc : Tryz.prog.cellsOf e = Rp.sz α) {W : World} {base : Nat} {sp : Nat → Bool} {held : Bool} {fuel : Nat} {cs : List Value} {x : DataW H × List MemPlace}
    (rd : ∀ n cs y, DataW.trod enc Tryz.prog W base sp held n e cs = some y → (∀ m, fuel = m → n ≤ m) → ∃ z : α, Rp.R (hp0 W) z cs ∧ F y.1 z) (h : DataW.trod enc Tryz.prog W base sp held fuel t cs = some x) :
    ∃ v, ∃ xs : List α, cs = [v] ∧ RS (hp0 W) v xs ∧ xs.length < 9223372036854775808 ∧ ((x.1 = .nil ∧ xs = []) ∨ ∃ ds rest : List (DataW H), x.1 = .slice ds rest ∧ ds.length = xs.length ∧ ∀ (j : Nat) (d : DataW H) (y : α), ds[j]? = some d → xs[j]? = some y → F d y) := by
  rcases DataW.trod_slice ht h with ⟨rfl, rfl⟩ | ⟨a, len, cap, elems, rest, n, rfl, rfl, rfl, hb, hl, hm, hlen, hel, -, -⟩
  · exact ⟨_, [], rfl, ⟨none, 0, rfl, Nat.le_refl _, fun q => absurd rfl q⟩, by simp, .inl ⟨rfl, rfl⟩⟩
  have pos : 0 < Rp.sz α := Rp.pos
  have key : ∀ i, i < len → ∃ z : α, (∃ cs', W.cells? base (a.add (i * Rp.sz α)) (Rp.sz α) = some cs' ∧ Rp.R (hp0 W) z cs') ∧ ∃ y, elems[i]? = some y ∧ F y.1 z := by
    intro i hi
    have h1 := hel i hi
    rw [hc, List.getElem?_eq_getElem (by omega)] at h1
    obtain ⟨cs', h2, h3⟩ := Option.bind_eq_some_iff.1 h1
    obtain ⟨z, h4, h5⟩ := rd n cs' _ h3 (fun m hm => by omega)
    exact ⟨z, ⟨cs', h2, h4⟩, _, List.getElem?_eq_getElem (by omega), h5⟩
  obtain ⟨xs, hxl, hx⟩ := pick_list len key
  refine ⟨_, xs, rfl, ⟨some a, cap, by rw [hxl], by omega, fun hne => ?_⟩, by have := maxLen_lt; omega, .inr ⟨_, _, rfl, by simp [hlen, hxl], fun j d y hj hy => ?_⟩⟩
  · have h0 : 0 < len := by have := List.length_pos_iff.2 hne; omega
    obtain ⟨b, o, s⟩ := a
    have hs : s = none := by
      have hx0 : ∃ x, xs[0]? = some x := ⟨_, List.getElem?_eq_getElem (by omega)⟩
      obtain ⟨x0, hx0⟩ := hx0
      obtain ⟨⟨cs', h2, h3⟩, -⟩ := hx 0 x0 hx0
      obtain ⟨-, h4, h5⟩ := World.cells?_some h2
      have h6 := h5 0 pos
      rw [List.getElem?_eq_getElem (by omega)] at h6
      simp only [Nat.zero_mul, Addr.add, if_true] at h6
      unfold World.cell? at h6
      split at h6
      · split at h6
        · cases h6
        · rename_i hn; cases s <;> simp_all
      · cases h6
    subst hs
    refine ⟨b, o, rfl, fun j x hj => ?_⟩
    obtain ⟨⟨cs', h2, h3⟩, -⟩ := hx j x hj
    obtain ⟨-, h4, h5⟩ := World.cells?_some h2
    refine ⟨cs', h3, fun i v hi => ?_⟩
    have hil : i < Rp.sz α := by rw [← h4]; exact (List.getElem?_eq_some_iff.1 hi).1
    have h6 := h5 i hil
    rw [hi] at h6
    show W.cell? ⟨b, o + j * Rp.sz α + i, none⟩ = some v
    have e : ((⟨b, o, none⟩ : Addr).add (j * Rp.sz α)).add i = ⟨b, o + j * Rp.sz α + i, none⟩ := by
      unfold Addr.add
      by_cases p : j * Rp.sz α = 0 <;> by_cases q : i = 0 <;> simp [p, q]
    rw [← e]; exact h6
  · obtain ⟨-, y', h1, h2⟩ := hx j y hy
    rw [List.getElem?_map, h1] at hj
    cases hj
    exact h2
theorem read_int {H : Type} {enc : TypeId × Value → H} {W : World} {base : Nat} {sp : Nat → Bool} {held : Bool} {n : Nat} {cs : List Value} {y : DataW H × List MemPlace} (h : DataW.trod enc Tryz.prog W base sp held n 3 cs = some y) :
    ∃ z : Int, Rp.R (hp0 W) z cs ∧ (y.1 = .lit (.int .i64 z) ∧ -9223372036854775808 ≤ z ∧ z ≤ 9223372036854775807) := by
  obtain ⟨z, rfl, rfl, hw⟩ := DataW.trod_int Tryz.underlying3 h
  exact ⟨z, rfl, rfl, by simpa [Lit.wf, IntKind.min, IntKind.max, IntKind.bits, IntKind.signed] using hw⟩
theorem read_str {H : Type} {enc : TypeId × Value → H} {W : World} {base : Nat} {sp : Nat → Bool} {held : Bool} {n : Nat} {cs : List Value} {y : DataW H × List MemPlace} (h : DataW.trod enc Tryz.prog W base sp held n 9 cs = some y) :
    ∃ z : ByteArray, Rp.R (hp0 W) z cs ∧ (y.1 = .lit (.string z.data.toList) ∧ z.size < 9223372036854775808) := by
  obtain ⟨z, rfl, rfl, hw⟩ := DataW.trod_string Tryz.underlying9 h
  exact ⟨z, rfl, rfl, by have := maxLen_lt; omega⟩
theorem six {l : List Value} {a0 a1 a2 a3 a4 a5 : Value} (hl : l.length = 6) (e0 : l[0]? = some a0) (e1 : l[1]? = some a1) (e2 : l[2]? = some a2) (e3 : l[3]? = some a3) (e4 : l[4]? = some a4) (e5 : l[5]? = some a5) : l = [a0, a1, a2, a3, a4, a5] := by
  match l, hl with
  | [b0, b1, b2, b3, b4, b5], _ =>
    simp at e0 e1 e2 e3 e4 e5
    rw [e0, e1, e2, e3, e4, e5]
theorem fitsL_of : ∀ {l : List Ex}, (∀ a ∈ l, a.fits) → fitsL l
  | [], _ => by rw [fitsL]; trivial
  | x :: l, h => by rw [fitsL]; exact ⟨h x (by simp), fitsL_of fun a ha => h a (by simp [ha])⟩
theorem Zal {t : TypeId} (h : Tryz.prog.cellsOf t = 1) {H : Type} {enc : TypeId × Value → H} {W : World} {base : Nat} {sp : Nat → Bool} {held : Bool} {n off : Nat} {cs : List Value} {y : Option (DataW H × List MemPlace)} (h1 : DataW.trod enc Tryz.prog W base sp held n t ((cs.drop off).take (Tryz.prog.cellsOf t)) = y) : DataW.trod enc Tryz.prog W base sp held n t ((cs.drop off).take 1) = y := by rwa [h] at h1
theorem cI : Tryz.prog.cellsOf 3 = 1 := by kernel_rfl
theorem cS : Tryz.prog.cellsOf 9 = 1 := by kernel_rfl
theorem cB : Tryz.prog.cellsOf 4 = 1 := by kernel_rfl
theorem cEs : Tryz.prog.cellsOf 45 = 1 := by kernel_rfl
theorem cE : Tryz.prog.cellsOf 47 = 6 := by kernel_rfl
theorem uE : Tryz.prog.underlying 45 = some (.slice 47) := by kernel_rfl
theorem getO {α : Type} {l : List α} {i : Nat} (h : i < l.length) : ∃ y, l[i]? = some y := ⟨_, List.getElem?_eq_getElem h⟩
theorem read_expr {H : Type} {enc : TypeId × Value → H} {W : World} {base : Nat} {sp : Nat → Bool} {held : Bool} : ∀ (n : Nat) {cs : List Value} {y : DataW H × List MemPlace}, DataW.trod enc Tryz.prog W base sp held n 47 cs = some y → ∃ z : Ex, Rp.R (hp0 W) z cs ∧ z.fits := by
  intro n
  induction n using Nat.strongRecOn with
  | ind n ih =>
    intro cs y h
    obtain ⟨xs, m, rfl, rfl, hl, hxl, hat⟩ := DataW.trod_struct Tryz.underlying47 h
    rw [cE] at hl
    have hxl' : xs.length = 6 := hxl
    obtain ⟨y0, g0⟩ := getO (l := xs) (i := 0) (by omega)
    obtain ⟨y1, g1⟩ := getO (l := xs) (i := 1) (by omega)
    obtain ⟨y2, g2⟩ := getO (l := xs) (i := 2) (by omega)
    obtain ⟨y3, g3⟩ := getO (l := xs) (i := 3) (by omega)
    obtain ⟨y4, g4⟩ := getO (l := xs) (i := 4) (by omega)
    obtain ⟨y5, g5⟩ := getO (l := xs) (i := 5) (by omega)
    obtain ⟨z0, r0, -, -⟩ := read_int ((Zal (off := 0) cI (hat 0 _ rfl)).trans g0)
    obtain ⟨z1, r1, -, -⟩ := read_int ((Zal (off := 1) cI (hat 1 _ rfl)).trans g1)
    obtain ⟨z2, r2, -, b2⟩ := read_int ((Zal (off := 2) cI (hat 2 _ rfl)).trans g2)
    obtain ⟨z3, r3, -, b3⟩ := read_str ((Zal (off := 3) cS (hat 3 _ rfl)).trans g3)
    obtain ⟨z4, r4, -, b4⟩ := read_str ((Zal (off := 4) cS (hat 4 _ rfl)).trans g4)
    obtain ⟨v, l, r5, r6, b5, b6⟩ := Zfr (α := Ex) (F := fun _ z => z.fits) uE cE (fun n' cs' y' h' hn => by
      obtain ⟨z, q1, q2⟩ := ih n' (by have := hn m rfl; omega) h'
      exact ⟨z, q1, q2⟩) ((Zal (off := 5) cEs (hat 5 _ rfl)).trans g5)
    have e : cs = [.int .i64 z0, .int .i64 z1, .int .i64 z2, .string z3, .string z4, v] := six hl (Z2o r0) (Z2o r1) (Z2o r2) (Z2o r3) (Z2o r4) (Z2o r5)
    refine ⟨.mk z0 z1 z2 z3 z4 l, Z7n.2 ⟨v, e, r6⟩, ?_⟩
    rw [Ex.fits]
    refine ⟨b2, b3, b4, b5, ?_⟩
    rcases b6 with ⟨-, rfl⟩ | ⟨ds, rest, -, hd, hf⟩
    · rw [fitsL]; trivial
    · refine fitsL_of fun a ha => ?_
      obtain ⟨j, hj, rfl⟩ := List.mem_iff_getElem.1 ha
      exact hf j _ _ (List.getElem?_eq_getElem (by omega)) (List.getElem?_eq_getElem hj)
theorem Stp.belowW {W W' : World} {h h' : Hp} (s : Stp [] W h W' h') : Below W.heap.size W W' := ⟨s.os, s.tape, s.output, s.size, fun k hk => s.block k hk (by simp)⟩
theorem Below.spare {H : Type} {enc : TypeId × Value → H} {t : TypeId} (hl : laidOutB Tryz.prog = true) (hr : Tryz.prog.readableRec t = true) (hrow : t < Tryz.prog.types.size) {W W' : World} {v : Value} {d : DataW H} {ps : List MemPlace}
    (h : DataW.Trod enc Tryz.prog W 0 (fun _ => true) true t v d ps) (hb : Below W.heap.size W W') (hlt : ∀ x ∈ ps, x.block < W.heap.size) (sp : Nat → Bool) (hsp : ∀ x ∈ ps, sp x.block = true) :
    DataW.Trod enc Tryz.prog W' 0 sp true t v d ps :=
  WideElems.Trod_stays hl hr hrow h (fun x hx => hb.same (hlt x hx)) hsp
end Go.Proofs.YtkodnhngllfemaaGreatDoor
