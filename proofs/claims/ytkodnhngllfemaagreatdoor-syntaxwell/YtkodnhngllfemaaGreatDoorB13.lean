import Derived.Test.YtkodnhngllfemaaGreatDoorB12
import Derived.Shelf.Strings.Builder1
import Derived.Lib.UnsafeStr
import Derived.Sort.Grow
set_option linter.unusedVariables false
set_option linter.unusedSimpArgs false
namespace Go.Proofs.YtkodnhngllfemaaGreatDoor
open Go

/-! ### 19. What the library does -/
theorem Stp.of_below {w w' : World} {h : Hp} (hs : Sub h w) (b : Go.RowKit.Below w.heap.size w w') : Stp [] w h w' h := by
  refine ⟨b.os, b.tape, b.output, b.size, fun i hi _ => b.block i hi, ⟨fun c o v e => ?_, Nat.le_trans hs.big b.size, fun i hi => (b.block i (Nat.lt_of_lt_of_le hi hs.big)).trans (hs.lows i hi), hs.glob, fun c es e => ?_⟩, rfl, rfl, Hle.refl h, fun _ _ _ _ => rfl, fun _ _ _ => rfl⟩
  · have hl := hs.lt e
    have := hs.at_ c o v e
    rwa [← World.cell?_of_block (w := w) (a := ⟨c, o, none⟩) (b.block c hl)] at this
  · obtain ⟨clk, hk⟩ := hs.maps c es e
    exact ⟨clk, (b.block c (Array.getElem?_eq_some_iff.1 hk).1).trans hk⟩
theorem grow_below {w : World} (k : Nat) (os : Array Obj) : Go.RowKit.Below w.heap.size w (Go.Sort.grow (w.drewN k) os) := by
  refine ⟨rfl, rfl, rfl, by simp [Go.Sort.grow, World.drewN], fun i hi => ?_⟩
  show (w.heap ++ os)[i]? = _
  rw [Array.getElem?_append_left hi]
section
variable {P : Program} {n : NS} {ops : Array Oper} {Q : Exit → Act → World → Prop} {E : Env} {w w' : World} {h : Hp} {rest : List Oper} {d : Option Tmp} {dd : Nat} {ty : TypeId} {ps : String} {af : Array Edge} {g : Option (Nat × Bool)}
/-- A block's frozen range turns: no cell does. -/
theorem freeze_stp {base e m : Nat} {v : Value} {xs : List UInt8} (hs : Sub h w) (own : Own w h base e 1 v m) (hb : h.base ≤ base) {b k : Nat} (hv : v.ownBlock = some b) : Stp v.ownBlock.toList w h (w.freeze ⟨b, 0, none⟩ k) h := by
  rcases own with ⟨rfl, _⟩ | ⟨gg, cap, cur, rfl, hbg, hg, _⟩
  · simp [Value.ownBlock] at hv
  · have hbe : gg = b := by simpa [Value.ownBlock] using hv
    subst hbe
    by_cases hk : k = 0
    · subst hk
      have : w.freeze ⟨gg, 0, none⟩ 0 = w := by simp [World.freeze]
      rw [this]; exact Stp.refl hs _
    · have hf : w.freeze ⟨gg, 0, none⟩ k = { w with heap := w.heap.setIfInBounds gg (.cells cur e (0, 0 + k)) } := by
        have hlt := (Array.getElem?_eq_some_iff.1 hg).1
        unfold World.freeze
        rw [if_neg hk]
        congr 1
        apply Array.ext'
        apply List.ext_getElem?
        intro i
        simp only [Array.getElem?_toList, Array.getElem?_modify, Array.getElem?_setIfInBounds]
        by_cases hi : gg = i
        · subst hi
          rw [if_pos rfl, if_pos rfl, if_pos hlt, hg]; simp
        · rw [if_neg hi, if_neg hi]
      rw [hf]
      have other : ∀ i, i ≠ gg → (w.heap.setIfInBounds gg (.cells cur e (0, 0 + k)))[i]? = w.heap[i]? := fun i hi => by rw [Array.getElem?_setIfInBounds, if_neg (Ne.symm hi)]
      have hlt := (Array.getElem?_eq_some_iff.1 hg).1
      refine ⟨rfl, rfl, rfl, by simp, fun i _ hn => other i (fun q => hn (by simp [Value.ownBlock, q])), ⟨fun c o u e1 => ?_, by simpa using hs.big, fun i hi => ?_, hs.glob, fun c es e1 => ?_⟩, rfl, rfl, Hle.refl h, fun _ _ _ _ => rfl, fun _ _ _ => rfl⟩
      · have h1 := hs.at_ c o u e1
        simp only [World.cell?] at h1 ⊢
        by_cases hc : c = gg
        · subst hc
          rw [hg] at h1
          rw [Array.getElem?_setIfInBounds, if_pos rfl, if_pos hlt]
          exact h1
        · rw [other c hc]; exact h1
      · exact (other i (by omega)).trans (hs.lows i hi)
      · obtain ⟨clk, h1⟩ := hs.maps c es e1
        have hne : c ≠ gg := fun q => by subst q; rw [hg] at h1; cases h1
        exact ⟨clk, (other c hne).trans h1⟩
theorem ov_sliceData {x : Operand} {t : TypeId} {A : Option Addr} {m c base e sz : Nat} (hx : ev E x = some (.slice A m c)) (own : Own w' h base e sz (.slice A m c) m) : OV P ⟨d, .call ⟨.builtin .unsafeSliceData, #[x], #[t]⟩, ty, ps, af, g⟩ E w (.pointer A) w := fun n a ha => by
  have key : (Builtin.unsafeSliceData_ #[t] ty #[.slice A m c]).run P w = .ok (.pointer A) w := by
    rcases own with ⟨hv, _⟩ | ⟨gg, cap, cur, hv, _, _, _, hc, _⟩
    · cases hv; exact Go.Lib.run_unsafeSliceData_nil (P := P) w _ _ _ _
    · cases hv; exact Go.Lib.run_unsafeSliceData_row (P := P) w _ _ _ _ _ (by omega)
  simp [execOp, resolve, invoke, builtin, ha.ev hx, key]
theorem WL.unsafeString {x y : Operand} {pt it e base c : Nat} {A : Option Addr} {xs : List UInt8} (hn : Nat.blt dd n = true) (hg : guardE ops E ⟨some dd, .call ⟨.builtin .unsafeString, #[x, y], #[pt, it]⟩, ty, ps, af, g⟩ = some true)
    (hx : ev E x = some (.pointer A)) (hy : ev E y = some (.int .i64 (xs.length : Int))) (hp : P.underlying pt = some (.pointer e)) (hc : P.cellsOf e = 1) (own : Own w h base e 1 (.slice A xs.length c) xs.length) (rs : RS h (.slice A xs.length c) xs) (hs : Sub h w) (hb : h.base ≤ base)
    (k : ∀ w1, Stp (Value.slice A xs.length c).ownBlock.toList w h w1 h → WL P n ops Q rest ((dd, .string ⟨xs.toArray⟩) :: E) w1) :
    WL P n ops Q (⟨some dd, .call ⟨.builtin .unsafeString, #[x, y], #[pt, it]⟩, ty, ps, af, g⟩ :: rest) E w := by
  by_cases hxs : xs = []
  · subst hxs
    refine WL.val rfl hn hg (w' := w) (v := .string ⟨([] : List UInt8).toArray⟩) (fun q a ha => ?_) (k w (Stp.refl hs _))
    have key : (Builtin.unsafeString_ #[pt, it] ty #[.pointer A, .int .i64 0]).run P w = .ok (.string .empty) w := Go.Lib.run_unsafeString_none (P := P) w pt it ty A
    simp [execOp, resolve, invoke, builtin, ha.ev hx, ha.ev hy, key]
    rfl
  · rcases own with ⟨hv, hz⟩ | ⟨gg, cap, cur, hv, hbg, hgg, hle, hcap, hsz, hf⟩
    · exact absurd (List.eq_nil_of_length_eq_zero hz) hxs
    · cases hv
      have own' : Own w h base e 1 (.slice (some ⟨gg, 0, none⟩) xs.length c) xs.length := .inr ⟨gg, c, cur, rfl, hbg, hgg, hle, hcap, hsz, hf⟩
      have hsh : w.shape? gg = some (e, cur.size) := by simp [World.shape?, hgg]
      have hcell : ∀ (j : Nat) (x : UInt8), xs[j]? = some x → w.cell? ((⟨gg, 0, none⟩ : Addr).add j) = some (.int .u8 x.toNat) := fun j x hj => by
        obtain ⟨cs, h1, h2⟩ := rs.cellAt hj
        have h1' : cs = [.int .u8 (x.toNat : Int)] := h1
        subst h1'
        have := hs.at_ _ _ _ (h2 0 _ rfl)
        rw [addr_add]
        simpa [Rp.sz] using this
      have key := Go.Lib.run_unsafeString_row (P := P) w pt it ty e hp hc gg cur.size hsh xs hxs (by omega) (by have := hcap.1; simp only [maxLen] at this; omega) hcell
      refine WL.val rfl hn hg (w' := w.freeze ⟨gg, 0, none⟩ xs.length) (v := .string ⟨xs.toArray⟩) (fun q a ha => ?_) (k _ (freeze_stp (xs := xs) hs own' hb rfl))
      simp only [execOp, resolve, Sem.run_bind, Sem.run_pure, Result.andThen_ok, invoke, builtin, List.map_toArray, List.map_cons, List.map_nil, ha.ev hx, ha.ev hy, key]
end
end Go.Proofs.YtkodnhngllfemaaGreatDoor
namespace Go.Proofs
open Go.Shelf Go.RowKit
variable {P : Program} {ρ : Ren}
set_option maxHeartbeats 1000000 in
set_option maxRecDepth 100000 in
/-- copyCheck at a builder that has not been written, wherever it lies first. -/
theorem YtkodnhngllfemaaGreatDoor.copyCheck_freshIn (L : Lays.n240 P ρ) (X : Builder.X72 P ρ) (b T m : Nat) (w : World) (h0 : w.cell? ⟨b, 0, none⟩ = some (.pointer none)) (hsh : w.shape? b = some (T, m)) (hm : 0 < m) (hl : liesAt P P.depth T (m / P.cellsOf T) 0 (ρ.t 72) 1 = true) (hfz : w.frozen? ⟨b, 0, none⟩ = false) :
    Calls P (ρ.f 240) #[.pointer (some ⟨b, 0, none⟩)] w fun e w' => e = .returned (.tuple #[]) ∧ w' = w.setCell ⟨b, 0, none⟩ (.pointer (some ⟨b, 0, none⟩)) := by
  obtain ⟨j, hj, hjs⟩ := Option.map_eq_some_iff.1 X.sizeBuilder
  have mixed := L.mixed
  have t72 := L.t72; have a72 := L.a72; have z72 := L.z72; have v72 := L.v72; have u72 := run_underlying L.t72
  have t70 := L.t70; have a70 := L.a70; have z70 := L.z70; have v70 := L.v70; have u70 := run_underlying L.t70
  have t9 := L.t9; have a9 := L.a9; have z9 := L.z9; have v9 := L.v9; have u9 := run_underlying L.t9
  have t4 := L.t4; have a4 := L.a4; have z4 := L.z4; have v4 := L.v4; have u4 := run_underlying L.t4
  have t164 := L.t164; have a164 := L.a164; have z164 := L.z164; have v164 := L.v164; have u164 := run_underlying L.t164
  go_enter L.f240, Body.n240_ntmps ρ
  go_wp2
  rw [Lib.run_to_unsafe w ⟨b, 0, none⟩ L.t70 L.t164 hj (by rw [hjs]; decide) hsh hm]
  simp only [Result.andThen]
  rw [Oper.upon_value]
  go_wp2
  rw [run_callFunc_extern L.f276 (by kernel_rfl) (by kernel_rfl) (by kernel_rfl) (e := Extern.AbiNoEscape.same) (by kernel_rfl)]
  rw [Lib.run_noEscape]
  simp only [Result.andThen]
  rw [Oper.upon_value]
  go_wp2
  rw [Lib.run_from_unsafe w ⟨b, 0, none⟩ L.t164 L.t70 hj hsh hl]
  simp only [Result.andThen]
  rw [Oper.upon_value]
  go_wp2
  go_end0
  exact ⟨rfl, rfl⟩
end Go.Proofs
