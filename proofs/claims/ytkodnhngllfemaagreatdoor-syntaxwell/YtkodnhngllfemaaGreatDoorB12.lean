import Derived.Test.YtkodnhngllfemaaGreatDoorB11
set_option linter.unusedVariables false
set_option linter.unusedSimpArgs false
namespace Go.Proofs.YtkodnhngllfemaaGreatDoor
open Go

/-! ### 18. Rows of one's own among what may be written -/
theorem ni_nil {b : Nat} : b ∉ ([] : List Nat) := by simp
theorem ni_cons {b c : Nat} {l : List Nat} (h : b ≠ c) (t : b ∉ l) : b ∉ c :: l := by simp [h, t]
theorem ni_own {b : Nat} {k l : List Nat} (h : b ∉ k) (t : b ∉ l) : b ∉ k ++ l := by simp [List.mem_append, h, t]
theorem on_nil {v : Value} : ∀ b ∈ ([] : List Nat), v.ownBlock ≠ some b := by simp
theorem on_cons {v : Value} {c : Nat} {l : List Nat} (h : v.ownBlock ≠ some c) (t : ∀ b ∈ l, v.ownBlock ≠ some b) : ∀ b ∈ c :: l, v.ownBlock ≠ some b := by
  intro b hb; rcases List.mem_cons.1 hb with rfl | hb
  · exact h
  · exact t b hb
theorem on_own {v : Value} {k l : List Nat} (h : ∀ b ∈ k, v.ownBlock ≠ some b) (t : ∀ b ∈ l, v.ownBlock ≠ some b) : ∀ b ∈ k ++ l, v.ownBlock ≠ some b := by
  intro b hb; rcases List.mem_append.1 hb with hb | hb
  · exact h b hb
  · exact t b hb
theorem in_nil {M : List Nat} {B : Nat} : ∀ i ∈ ([] : List Nat), i ∈ M ∨ B ≤ i := by simp
theorem in_cons {M l : List Nat} {B c : Nat} (h : c ∈ M ∨ B ≤ c) (t : ∀ i ∈ l, i ∈ M ∨ B ≤ i) : ∀ i ∈ c :: l, i ∈ M ∨ B ≤ i := by
  intro b hb; rcases List.mem_cons.1 hb with rfl | hb
  · exact h
  · exact t b hb
theorem in_own {M k l : List Nat} {B : Nat} (h : ∀ i ∈ k, i ∈ M ∨ B ≤ i) (t : ∀ i ∈ l, i ∈ M ∨ B ≤ i) : ∀ i ∈ k ++ l, i ∈ M ∨ B ≤ i := by
  intro b hb; rcases List.mem_append.1 hb with hb | hb
  · exact h b hb
  · exact t b hb
theorem om_nil {n m : Nat} {M : List Nat} {B : Nat} : ∀ i ∈ (Value.slice none n m).ownBlock.toList, i ∈ M ∨ B ≤ i := by simp [Value.ownBlock]
theorem om_next {v v' v0 : Value} {B C : Nat} (at_ : v'.ownBlock = v.ownBlock ∨ v'.ownBlock = some B) (om : ∀ i ∈ v.ownBlock.toList, i ∈ v0.ownBlock.toList ∨ C ≤ i) (hB : C ≤ B) : ∀ i ∈ v'.ownBlock.toList, i ∈ v0.ownBlock.toList ∨ C ≤ i := by
  rcases at_ with e | e
  · rw [e]; exact om
  · rw [e]; intro i hi; simp at hi; subst hi; exact .inr hB
section
variable {P : Program} {n : NS} {ops : Array Oper} {Q : Exit → Act → World → Prop} {E : Env} {w w' : World} {h : Hp} {rest : List Oper} {d : Option Tmp} {dd : Nat} {ty : TypeId} {ps : String} {af : Array Edge} {g : Option (Nat × Bool)}
theorem Own.weak {base B e sz m : Nat} {v : Value} (own : Own w h B e sz v m) (hb : base ≤ B) : Own w h base e sz v m := by
  rcases own with o | ⟨g, cap, cur, rfl, hbg, r⟩
  · exact .inl o
  · exact .inr ⟨g, cap, cur, rfl, Nat.le_trans hb hbg, r⟩
theorem Own.rb {base B e sz m : Nat} {v : Value} (own : Own w h B e sz v m) (hb : B = base) : Own w h base e sz v m := by subst hb; exact own
theorem Own.rebase {base B e sz m : Nat} {v : Value} (own : Own w h base e sz v m) (hb : ∀ i ∈ v.ownBlock.toList, B ≤ i) : Own w h B e sz v m := by
  rcases own with o | ⟨g, cap, cur, rfl, hbg, r⟩
  · exact .inl o
  · exact .inr ⟨g, cap, cur, rfl, hb g (by simp [Value.ownBlock]), r⟩
theorem Own.ne_ob {base e sz m c T : Nat} {v : Value} {ds : List Value} (own : Own w h base e sz v m) (ob : OB w h c T ds) (hne : e ≠ T) : v.ownBlock ≠ some c := fun hc => own.ne ob hne c (by simp [hc]) rfl
theorem Own.ne_own {base e sz m base' e' sz' m' : Nat} {v v' : Value} (own : Own w h base e sz v m) (own' : Own w h base' e' sz' v' m') (hne : e ≠ e') : ∀ b ∈ v'.ownBlock.toList, v.ownBlock ≠ some b := by
  rcases own with ⟨rfl, _⟩ | ⟨g, cap, cur, rfl, hbg, hg, _⟩
  · simp [Value.ownBlock]
  · rcases own' with ⟨rfl, _⟩ | ⟨g', cap', cur', rfl, hbg', hg', _⟩
    · simp [Value.ownBlock]
    · intro b hb hc
      simp [Value.ownBlock] at hb hc
      subst hb; subst hc
      have := hg.symm.trans hg'
      simp only [Option.some.injEq, Obj.cells.injEq] at this
      exact hne this.2.1
theorem Own.ne_map {base e sz m b : Nat} {v : Value} {T : List (Value × Value)} (own : Own w h base e sz v m) (mb : MB w h b T) : b ∉ v.ownBlock.toList := by
  rcases own with ⟨rfl, _⟩ | ⟨g, cap, cur, rfl, hbg, hg, _⟩
  · simp [Value.ownBlock]
  · intro hb
    simp [Value.ownBlock] at hb
    subst hb
    obtain ⟨es, clk, hm, _⟩ := mb.heap
    rw [hg] at hm; cases hm
theorem Own.ne_map1 {base e sz m b : Nat} {v : Value} {T : List (Value × Value)} (own : Own w h base e sz v m) (mb : MB w h b T) : v.ownBlock ≠ some b := fun hc => own.ne_map mb (by simp [hc])
/-! bytes of a string behind bytes -/
theorem run_appendS {t u ty e base bytes : Nat} {v : Value} {xs : List UInt8} {s : ByteArray} (ht : P.underlying t = some (.slice e)) (hu : P.underlying u = some .string) (hsz : tSize P e = some 1) (hz : tZero P e = some (.int .u8 0))
    (hby : tBytes P e = some bytes) (hb : Nat.ble bytes 1000 = true) (own : Own w h base e 1 v xs.length) (rs : RS h v xs) (hlen : xs.length + s.size < 1000000000) (hs : Sub h w) (hbase : base ≤ w.heap.size) (hbb : h.base ≤ base) :
    ∃ v' w' h', (Builtin.append_ #[t, u] ty #[v, .string s]).run P w = .ok v' w' ∧ RS h' v' (xs ++ s.data.toList) ∧ Own w' h' base e 1 v' (xs ++ s.data.toList).length ∧ Stp v.ownBlock.toList w h w' h' ∧ (v'.ownBlock = v.ownBlock ∨ v'.ownBlock = some w.heap.size) := by
  obtain ⟨i, hi⟩ : ∃ i, P.info? e = some i := by
    unfold tSize at hsz
    cases hi : P.info? e with
    | none => rw [hi] at hsz; cases hsz
    | some i => exact ⟨i, rfl⟩
  have h1 : i.size = 1 := by unfold tSize at hsz; rw [hi] at hsz; simpa using hsz
  have h2 : i.zero = some (.int .u8 0) := by unfold tZero at hz; rw [hi] at hz; simpa using hz
  have h3 : i.bytes ≤ 1000 := by
    unfold tBytes at hby; rw [hi] at hby; simp at hby; rw [hby]; exact Nat.le_of_ble_eq_true hb
  have hmul : (xs.length + s.size) * i.bytes ≤ 1000000000000 := Nat.le_trans (Nat.mul_le_mul (Nat.le_of_lt hlen) h3) (by decide)
  have hlb : s.data.toList.length = s.size := by rw [Array.length_toList]; rfl
  by_cases hy : s.size = 0
  · have hnil : s.data.toList = [] := List.eq_nil_of_length_eq_zero (by rw [hlb]; exact hy)
    rw [hnil]
    refine ⟨v, w, h, ?_, by simpa using rs, by simpa using own, Stp.refl hs _, .inl rfl⟩
    have hl0 : ∀ q : Nat, (Builtin.firstCells q 0 (.string s)).run P w = .ok #[] w := by
      intro q
      have := Go.Lib.run_firstCells_string (P := P) w q s
      rw [hy] at this
      rw [this]
      simp [Go.Lib.strCells, hnil]
    rcases own with ⟨rfl, hn⟩ | ⟨g, cap, cur, rfl, hbg, hg, hn, hc, hcs, hf⟩
    · have hx : xs = [] := List.eq_nil_of_length_eq_zero hn
      subst hx
      simp [Builtin.append_, run_underlying ht, run_underlying hu, sizeOf, typeInfo, hi, Builtin.lenOf, hy, hl0, storeCells]
    · simp [Builtin.append_, run_underlying ht, run_underlying hu, sizeOf, typeInfo, hi, Builtin.lenOf, hy, hl0, storeCells, hn]
  · have hlen' : xs.length + s.data.toList.length < 1000000000 := by rw [hlb]; exact hlen
    refine append_core (α := UInt8) (zv := .int .u8 0) (news := Go.Lib.strCells s) rfl own rs hlen' hs hbase hbb (by rw [hlb]; omega) (by rw [Go.Lib.strCells_length, hlb]; exact (Nat.mul_one _).symm) (fun j x hx => ⟨[.int .u8 x.toNat], rfl, fun q u hq => ?_⟩) (fun hv hx => ?_) (fun g cap cur hg hroom hfit => ?_) (fun g cap olds ho1 ho2 hg hx hcm => ?_)
    · cases q with
      | zero =>
        simp at hq
        subst hq
        show (Go.Lib.strCells s)[j * 1 + 0]? = _
        simp [Go.Lib.strCells, hx]
      | succ q => simp at hq
    · subst hx
      simp only [List.length_nil, Nat.zero_add] at hmul hlen
      have := run_append_nil_string (P := P) w t u ty e i (.int .u8 0) ht hu hi h2 s (by omega) (by omega) (by omega)
      rw [this, hlb]
      have e2 : (Array.map (fun b : UInt8 => Value.int IntKind.u8 ↑b.toNat) s.data) = (Go.Lib.strCells s).toArray := by
        apply Array.ext'; simp [Go.Lib.strCells]
      rw [e2]
    · have e1 : Rp.sz UInt8 = 1 := rfl
      rw [e1, Nat.mul_one] at hfit ⊢
      rw [hlb] at hroom ⊢
      rw [Go.Lib.strCells_length] at hfit ⊢
      exact Go.Lib.run_append_room_string (P := P) w t u ty e i ht hu hi h1 g xs.length cap cur hg s hroom hfit
    · rw [hlb] at hg ⊢
      have e1 : Rp.sz UInt8 = 1 := rfl
      exact Go.Lib.run_append_grow_string (P := P) w t u ty e i (.int .u8 0) ht hu hi h2 ⟨g, 0, none⟩ xs.length cap olds (by rw [h1]; rw [e1] at ho1; exact ho1) (fun j u hu => by rw [add_plain, Nat.zero_add]; exact ho2 j u hu) s (by omega) (by omega) (growslice_fits (by omega) (by omega))
theorem WL.appendS {x y : Operand} {t u e base bytes : Nat} {v : Value} {xs : List UInt8} {s : ByteArray} (hn : Nat.blt dd n = true) (hg : guardE ops E ⟨some dd, .call ⟨.builtin .append, #[x, y], #[t, u]⟩, ty, ps, af, g⟩ = some true)
    (hx : ev E x = some v) (hy : ev E y = some (.string s)) (ht : P.underlying t = some (.slice e)) (hu : P.underlying u = some .string) (hsz : tSize P e = some 1) (hz : tZero P e = some (.int .u8 0))
    (hby : tBytes P e = some bytes) (hb : Nat.ble bytes 1000 = true) (own : Own w h base e 1 v xs.length) (rs : RS h v xs) (hlen : xs.length + s.size < 1000000000) (hs : Sub h w) (hbase : base ≤ w.heap.size) (hbb : h.base ≤ base)
    (k : ∀ v' w1 h1, RS h1 v' (xs ++ s.data.toList) → Own w1 h1 base e 1 v' (xs ++ s.data.toList).length → Stp v.ownBlock.toList w h w1 h1 → (v'.ownBlock = v.ownBlock ∨ v'.ownBlock = some w.heap.size) → WL P n ops Q rest ((dd, v') :: E) w1) :
    WL P n ops Q (⟨some dd, .call ⟨.builtin .append, #[x, y], #[t, u]⟩, ty, ps, af, g⟩ :: rest) E w := by
  obtain ⟨v', w1, h1, hr, r1, r2, r3, r4⟩ := run_appendS (ty := ty) ht hu hsz hz hby hb own rs hlen hs hbase hbb
  refine WL.val rfl hn hg (w' := w1) (v := v') (fun m a ha => ?_) (k v' w1 h1 r1 r2 r3 r4)
  simp only [execOp, resolve, Sem.run_bind, Sem.run_pure, Result.andThen_ok, invoke, builtin, List.map_toArray, List.map_cons, List.map_nil, ha.ev hx, ha.ev hy, hr]
/-! a field of a value; an element of an array in place -/
def tFld (P : Program) (s i : Nat) : Option (Nat × Nat) := match P.underlying s with
  | some (.struct fs) => (fs[i]?).map fun f => (f.type, f.offset)
  | _ => none
theorem ov_field1 {t ft off : Nat} {x : Operand} {i : Nat} {cs : Array Value} {v : Value} (hx : ev E x = some (.agg cs)) (hf : tFld P t i = some (ft, off)) (ha : tAgg P ft = some false) (hv : cs[off]? = some v) : OV P ⟨d, .field t x i, ty, ps, af, g⟩ E w v w := fun n a hat => by
  unfold tFld at hf
  split at hf
  · rename_i fs hu
    obtain ⟨f, hf1, hf2⟩ := Option.map_eq_some_iff.1 hf
    cases hf2
    simp [execOp, hat.ev hx, Instr.field, run_underlying hu, hf1, part, run_isAgg ha, asAgg, hv]
  · cases hf
theorem ov_indexAddrA {x y : Operand} {t e b o len z : Nat} {i : Int} (h : ev E x = some (.pointer (some ⟨b, o, none⟩))) (hy : ev E y = some (.int .i64 i)) (ht : P.underlying t = some (.array len e)) (hz : tSize P e = some z) (h0 : 0 ≤ i) (h1 : i < len) :
    OV P ⟨d, .indexAddr t x y, ty, ps, af, g⟩ E w (.pointer (some ⟨b, o + i.toNat * z, none⟩)) w := fun n a ha => by
  simp only [execOp, ha.ev h, ha.ev hy, Instr.indexAt, asIntOf, Sem.run_bind, Sem.run_pure, Result.andThen_ok, run_underlying ht w]
  simp [h0, h1, run_sizeOf hz, add_plain, Instr.sureAddr, run_underlying ht]
/-! results that lie in cells -/
theorem run_loadVar1 {t b o : Nat} {v : Value} (ht : tAgg P t = some false) (hc : w.cell? ⟨b, o, none⟩ = some v) : (loadVar t ⟨b, o, none⟩).run P w = .ok v w := by
  simp only [loadVar, Sem.run_bind, run_isAgg ht, Result.andThen_ok]
  simp [hc]
theorem run_loadVarN {t b o : Nat} {cs : List Value} (ht : tAgg P t = some true) (hz : tSize P t = some cs.length) (hc : ∀ j v, cs[j]? = some v → w.cell? ⟨b, o + j, none⟩ = some v) : (loadVar t ⟨b, o, none⟩).run P w = .ok (.agg cs.toArray) w := by
  have hl := run_loadCells_list (P := P) w ⟨b, o, none⟩ cs (fun j v hv => by rw [add_plain]; exact hc j v hv)
  simp only [loadVar, Sem.run_bind, Sem.run_pure, Result.andThen_ok, run_isAgg ht, run_sizeOf hz, if_true, hl]
theorem WQ.retC1 {fn : Func} {t ty b o : Nat} {R : Ending → World → Prop} {v : Value} (hr : fn.results = #[.cell t ty]) (hv : lk E t = some (.pointer (some ⟨b, o, none⟩))) (hl : (loadVar ty ⟨b, o, none⟩).run P w = .ok v w) (h : R (.returned v) w) (hd : n.ds = [] := by rfl) : WQ n (bodyPost P fn R) .ret E w := fun a ha =>
  bodyPost_ret (v := v) (by
    have e := ha.slot t _ hv
    simp only [results, hr]
    rw [Array.getD_eq_getD_getElem?] at e
    simp [e, asAddr, hl]) (ha.defers.trans hd) h
end
end Go.Proofs.YtkodnhngllfemaaGreatDoor
