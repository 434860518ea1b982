import Derived.Test.YtkodnhngllfemaaGreatDoorG0
set_option linter.unusedVariables false
set_option linter.unusedSimpArgs false
namespace Go.Proofs.YtkodnhngllfemaaGreatDoor
open Go
structure Sub (h : Hp) (w : World) : Prop where
  at_ : ∀ b o v, h b o = some v → w.cell? ⟨b, o, none⟩ = some v
  big : h.base ≤ w.heap.size
  lows : ∀ i, i < h.base → w.heap[i]? = h.low i
  glob : Glob h
  maps : ∀ b es, h.mp b = some es → ∃ clk, w.heap[b]? = some (.map es clk)
structure Stp (M : List Nat) (w : World) (h : Hp) (w' : World) (h' : Hp) : Prop where
  os : w'.os = w.os
  tape : w'.tape = w.tape
  output : w'.output = w.output
  size : w.heap.size ≤ w'.heap.size
  block : ∀ i, i < w.heap.size → i ∉ M → w'.heap[i]? = w.heap[i]?
  sub : Sub h' w'
  eqb : h'.base = h.base
  eql : h'.low = h.low
  le : Hle h h'
  new : ∀ i o, i < w.heap.size → i ∉ M → h' i o = h i o
  newm : ∀ i, i < w.heap.size → i ∉ M → h'.mp i = h.mp i
theorem Sub.lt {h : Hp} {w : World} (hs : Sub h w) {b o : Nat} {v : Value} (e : h b o = some v) : b < w.heap.size := World.block_lt_of_cell? w ⟨b, o, none⟩ (hs.at_ b o v e)
theorem Stp.refl {w : World} {h : Hp} (hs : Sub h w) (M : List Nat) : Stp M w h w h := ⟨rfl, rfl, rfl, Nat.le_refl _, fun _ _ _ => rfl, hs, rfl, rfl, Hle.refl h, fun _ _ _ _ => rfl, fun _ _ _ => rfl⟩
theorem Stp.trans {M M' : List Nat} {w w1 w2 : World} {h h1 h2 : Hp} (s : Stp M w h w1 h1) (t : Stp M' w1 h1 w2 h2) (hm : ∀ i ∈ M', i ∈ M ∨ w.heap.size ≤ i) : Stp M w h w2 h2 := by
  have nm : ∀ i, i < w.heap.size → i ∉ M → i ∉ M' := fun i hi hn hc => by
    rcases hm i hc with h' | h'
    · exact hn h'
    · omega
  refine ⟨t.os.trans s.os, t.tape.trans s.tape, t.output.trans s.output, Nat.le_trans s.size t.size, fun i hi hn => ?_, t.sub, t.eqb.trans s.eqb, t.eql.trans s.eql, s.le.trans t.le, fun i o hi hn => ?_, fun i hi hn => ?_⟩
  · exact (t.block i (Nat.lt_of_lt_of_le hi s.size) (nm i hi hn)).trans (s.block i hi hn)
  · exact (t.new i o (Nat.lt_of_lt_of_le hi s.size) (nm i hi hn)).trans (s.new i o hi hn)
  · exact (t.newm i (Nat.lt_of_lt_of_le hi s.size) (nm i hi hn)).trans (s.newm i hi hn)
theorem Stp.trans0 {M : List Nat} {w w1 w2 : World} {h h1 h2 : Hp} (s : Stp M w h w1 h1) (t : Stp [] w1 h1 w2 h2) : Stp M w h w2 h2 := s.trans t (by simp)
theorem Stp.trans1 {M : List Nat} {w w1 w2 : World} {h h1 h2 : Hp} {b : Nat} (s : Stp M w h w1 h1) (t : Stp [b] w1 h1 w2 h2) (hb : b ∈ M ∨ w.heap.size ≤ b) : Stp M w h w2 h2 := s.trans t (by simpa using hb)
theorem Stp.drew {w : World} {h : Hp} (hs : Sub h w) (k : Nat) : Stp [] w h { w with drawn := k } h := ⟨rfl, rfl, rfl, Nat.le_refl _, fun _ _ _ => rfl, ⟨fun b o v e => hs.at_ b o v e, hs.big, hs.lows, hs.glob, hs.maps⟩, rfl, rfl, Hle.refl h, fun _ _ _ _ => rfl, fun _ _ _ => rfl⟩
structure OB (w : World) (h : Hp) (b T : Nat) (cs : List Value) : Prop where
  heap : w.heap[b]? = some (.cells cs.toArray T (0, 0))
  free : ∀ o, h b o = none
  ge : h.base ≤ b
theorem OB.lt {w : World} {h : Hp} {b T : Nat} {cs : List Value} (ob : OB w h b T cs) : b < w.heap.size := (Array.getElem?_eq_some_iff.1 ob.heap).1
theorem OB.step {M : List Nat} {w w' : World} {h h' : Hp} {b T : Nat} {cs : List Value} (ob : OB w h b T cs) (s : Stp M w h w' h') (hm : b ∉ M) : OB w' h' b T cs :=
  ⟨(s.block b ob.lt hm).trans ob.heap, fun o => (s.new b o ob.lt hm).trans (ob.free o), by rw [s.eqb]; exact ob.ge⟩
theorem OB.step0 {w w' : World} {h h' : Hp} {b T : Nat} {cs : List Value} (ob : OB w h b T cs) (s : Stp [] w h w' h') : OB w' h' b T cs := ob.step s (by simp)
theorem OB.step1 {w w' : World} {h h' : Hp} {b T c : Nat} {cs : List Value} (ob : OB w h b T cs) (s : Stp [c] w h w' h') (hne : b ≠ c) : OB w' h' b T cs := ob.step s (by simpa using hne)
theorem OB.cell {w : World} {h : Hp} {b T : Nat} {cs : List Value} (ob : OB w h b T cs) {j : Nat} {v : Value} (hv : cs[j]? = some v) : w.cell? ⟨b, j, none⟩ = some v := by
  rw [cell_of_row w b j cs.toArray T (0, 0) ob.heap]; simpa using hv
theorem OB.ne {w : World} {h : Hp} {b T c U : Nat} {cs ds : List Value} (x : OB w h b T cs) (y : OB w h c U ds) (hne : T ≠ U) : b ≠ c := by
  rintro rfl
  have := x.heap.symm.trans y.heap
  simp only [Option.some.injEq, Obj.cells.injEq] at this
  exact hne this.2.1
theorem Zcu {w : World} {h : Hp} (hs : Sub h w) (o : Obj) : Stp [] w h (w.alloc o) h :=
  ⟨rfl, rfl, rfl, by simp, fun i hi _ => Go.RowKit.Below.heap_alloc w o i hi, ⟨fun b p v e => by
    have hl := hs.lt e
    have := hs.at_ b p v e
    rwa [← World.cell?_of_block (w := w) (a := ⟨b, p, none⟩) (Go.RowKit.Below.heap_alloc w o b hl)] at this, by have := hs.big; simp; omega,
    fun i hi => (Go.RowKit.Below.heap_alloc w o i (Nat.lt_of_lt_of_le hi hs.big)).trans (hs.lows i hi), hs.glob, fun b es e => by
      obtain ⟨clk, hk⟩ := hs.maps b es e
      exact ⟨clk, (Go.RowKit.Below.heap_alloc w o b (Array.getElem?_eq_some_iff.1 hk).1).trans hk⟩⟩, rfl, rfl, Hle.refl h, fun _ _ _ _ => rfl, fun _ _ _ => rfl⟩
theorem alloc_ob {w : World} {h : Hp} (hs : Sub h w) (cs : List Value) (T : Nat) : OB (w.alloc (.cells cs.toArray T)) h w.heap.size T cs := by
  refine ⟨by show (w.heap.push _)[w.heap.size]? = _; simp, fun o => ?_, hs.big⟩
  cases e : h w.heap.size o with
  | none => rfl
  | some v => exact absurd (hs.lt e) (by omega)
def hadd (h : Hp) (b : Nat) (cs : List Value) : Hp := { h with c := fun c o => if c = b then cs[o]? else h c o }
theorem hadd_new (h : Hp) (b : Nat) (cs : List Value) (o : Nat) : hadd h b cs b o = cs[o]? := by simp [hadd]
theorem hadd_old (h : Hp) (b : Nat) (cs : List Value) (c o : Nat) (hne : c ≠ b) : hadd h b cs c o = h c o := by simp [hadd, hne]
theorem alloc_row {w : World} {h : Hp} (hs : Sub h w) (cs : List Value) (T : Nat) : Stp [] w h (w.alloc (.cells cs.toArray T)) (hadd h w.heap.size cs) := by
  have s := Zcu hs (.cells cs.toArray T)
  have hle : Hle h (hadd h w.heap.size cs) := Hle.of (fun b o v e => by
    have := hs.lt e
    rw [hadd_old h _ cs b o (by omega)]; exact e) rfl
  refine ⟨rfl, rfl, rfl, s.size, s.block, ⟨fun b o v e => ?_, s.sub.big, s.sub.lows, hs.glob.mono hle rfl rfl, s.sub.maps⟩, rfl, rfl, hle, fun i o hi _ => ?_, fun _ _ _ => rfl⟩
  · by_cases hb : b = w.heap.size
    · subst hb
      rw [hadd_new] at e
      rw [cell_of_row _ w.heap.size o cs.toArray T (0, 0) (by show (w.heap.push _)[w.heap.size]? = _; simp)]
      simpa using e
    · rw [hadd_old h _ cs b o hb] at e
      exact s.sub.at_ b o v e
  · rw [hadd_old h _ cs i o (by omega)]
theorem Zby {w : World} {h : Hp} {b T : Nat} {cs : List Value} (hs : Sub h w) (ob : OB w h b T cs) (ds : List Value) : Stp [b] w h (w.setRow b ds.toArray) h :=
  ⟨rfl, rfl, rfl, by simp, fun i _ hn => setRow_other w b i ds.toArray (by simpa using hn), ⟨fun c o v e => by
    have hne : c ≠ b := fun hcb => by subst hcb; rw [ob.free o] at e; cases e
    rw [cell_setRow_other w b ds.toArray ⟨c, o, none⟩ hne]
    exact hs.at_ c o v e, by have := hs.big; simp; omega, fun i hi => by
      have := ob.ge
      rw [setRow_other w b i ds.toArray (by omega)]; exact hs.lows i hi, hs.glob, fun c es e => by
      obtain ⟨clk, hk⟩ := hs.maps c es e
      have hne : c ≠ b := fun hcb => by subst hcb; rw [ob.heap] at hk; cases hk
      exact ⟨clk, (setRow_other w b c ds.toArray hne).trans hk⟩⟩, rfl, rfl, Hle.refl h, fun _ _ _ _ => rfl, fun _ _ _ => rfl⟩
theorem Zgs {w : World} {h : Hp} {b T : Nat} {cs : List Value} (ob : OB w h b T cs) (ds : List Value) : OB (w.setRow b ds.toArray) h b T ds :=
  ⟨setRow_heap w b cs.toArray ds.toArray T (0, 0) ob.heap, ob.free, ob.ge⟩
section
variable {P : Program} {n : NS} {ops : Array Oper} {Q : Exit → Act → World → Prop} {E : Env} {w w' : World} {h : Hp} {rest : List Oper} {d : Nat} {ty : TypeId} {ps : String} {af : Array Edge} {g : Option (Nat × Bool)}
theorem Z15 {t : TypeId} {zs : List Value} {z : Value} (hn : Nat.blt d n = true) (hg : Z8f ops E ⟨some d, .alloc t, ty, ps, af, g⟩ = some true) (hz : tZero P t = some z) (hzs : z.cells.toList = zs) (hs : Sub h w)
    (k : ∀ w1 b, b = w.heap.size → Stp [] w h w1 h → OB w1 h b t zs → WL P n ops Q rest ((d, .pointer (some ⟨b, 0, none⟩)) :: E) w1) : WL P n ops Q (⟨some d, .alloc t, ty, ps, af, g⟩ :: rest) E w := by
  subst hzs
  refine WL.val rfl hn hg (w' := w.alloc (.cells z.cells t)) (v := .pointer (some ⟨w.heap.size, 0, none⟩)) (fun m a ha => ?_) ?_
  · simp [execOp, Instr.alloc, Sem.run_bind, run_zero hz, newVar, newRow]
  · have e : z.cells = z.cells.toList.toArray := by simp
    rw [e]
    exact k _ _ rfl (Zcu hs _) (alloc_ob hs _ _)
theorem Zhq {t : TypeId} {x : Operand} {v : Value} {cs : List Value} (hn : Nat.blt d n = true) (hg : Z8f ops E ⟨some d, .box t x, ty, ps, af, g⟩ = some true) (hx : ev E x = some v) (hcs : v.cells.toList = cs) (hs : Sub h w)
    (k : ∀ w1 b, b = w.heap.size → Stp [] w h w1 h → OB w1 h b t cs → WL P n ops Q rest ((d, .pointer (some ⟨b, 0, none⟩)) :: E) w1) : WL P n ops Q (⟨some d, .box t x, ty, ps, af, g⟩ :: rest) E w := by
  subst hcs
  refine WL.val rfl hn hg (w' := w.alloc (.cells v.cells t)) (v := .pointer (some ⟨w.heap.size, 0, none⟩)) (fun m a ha => ?_) ?_
  · simp [execOp, Instr.box, ha.ev hx, newVar, newRow]
  · have e : v.cells = v.cells.toList.toArray := by simp
    rw [e]
    exact k _ _ rfl (Zcu hs _) (alloc_ob hs _ _)
theorem Zo {t : TypeId} {x y : Operand} {b o T : Nat} {v : Value} {vs cs ds : List Value} (hg : Z8f ops E ⟨none, .store t x y, ty, ps, af, g⟩ = some true) (hx : ev E x = some (.pointer (some ⟨b, o, none⟩))) (hy : ev E y = some v)
    (hvs : v.cells.toList = vs) (hsz : Zhb P t = some vs.length) (h1 : ∀ u ∈ vs, u.oneCell' = true) (hb : OB w h b T cs) (hs : Sub h w) (hl : o + vs.length ≤ cs.length) (hd : cs.take o ++ vs ++ cs.drop (o + vs.length) = ds)
    (k : ∀ w1, Stp [b] w h w1 h → OB w1 h b T ds → WL P n ops Q rest E w1) : WL P n ops Q (⟨none, .store t x y, ty, ps, af, g⟩ :: rest) E w := by
  subst hvs
  refine WL.unit rfl hg (w' := w.setRow b ds.toArray) (fun m a ha => ?_) ?_
  · have hst := run_storeCells_at (P := P) b o T v.cells.toList 0 cs.toArray w hb.heap (by simpa using hl) h1
    have hsize : (sizeOf t).run P w = .ok v.cells.size w := by rw [Z83 hsz]; simp
    simp only [execOp, ha.ev hx, ha.ev hy, Instr.storeAt, Instr.sureAddr, Sem.run_bind, Sem.run_pure, Result.andThen_ok, storeVar, hsize, ne_eq, not_true_eq_false, if_false]
    simp only [Nat.add_zero] at hst
    simp only [hst, hd, Result.andThen_ok, Sem.run_pure]
  · exact k _ (Zby hs hb ds) (Zgs hb ds)
theorem parts_ev {m : NS} {a : Act} (ha : At m E a) {parts : List (Nat × Operand)} {vs : List (Nat × Value)} (hv : parts.map (fun p => (ev E p.2).map (p.1, ·)) = vs.map some) : parts.map (fun p => (p.1, a.eval p.2)) = vs := by
  induction parts generalizing vs with
  | nil => cases vs <;> simp_all
  | cons p l ih =>
    cases vs with
    | nil => simp at hv
    | cons q m =>
      simp only [List.map_cons, List.cons.injEq] at hv ⊢
      obtain ⟨x, hx, he⟩ := Option.map_eq_some_iff.1 hv.1
      exact ⟨by rw [ha.ev hx]; exact he, ih hv.2⟩
theorem ov_build {t : TypeId} {parts : List (Nat × Operand)} {vs : List (Nat × Value)} {cs : List Value} (hv : parts.map (fun p => (ev E p.2).map (p.1, ·)) = vs.map some) (hb : P.built t vs = some cs.toArray) {d : Option Tmp} :
    OV P ⟨d, .build t parts.toArray, ty, ps, af, g⟩ E w (.agg cs.toArray) w := fun m a ha => by
  have key := parts_ev ha hv
  have hr := run_build (P := P) w t (parts.toArray.map fun p => (p.1, a.eval p.2)) cs.toArray (by
    rw [List.map_toArray]; simpa [key] using hb)
  simp only [execOp, Sem.run_bind, hr, Result.andThen_ok, Sem.run_pure]
theorem WL.buildSlice {t e z : TypeId} {len : Nat} {parts : List (Nat × Operand)} {vs : List (Nat × Value)} {cs zs : List Value} {zv : Value} (hn : Nat.blt d n = true) (hg : Z8f ops E ⟨some d, .buildSlice t len parts.toArray, ty, ps, af, g⟩ = some true)
    (hv : parts.map (fun p => (ev E p.2).map (p.1, ·)) = vs.map some) (ht : P.underlying t = some (.slice e)) (hz : Zhb P e = some z) (hze : tZero P e = some zv) (hpos : Nat.ble 1 (len * z) = true) (hlen : Nat.ble (len * z) 1000 = true)
    (hf : Instr.fill (fun i => some (i * z, z)) ((Array.range (len * z)).map (zv.cells[· % zv.cells.size]!)) vs = some cs.toArray) (hs : Sub h w)
    (k : ∀ w1 h1 b, b = w.heap.size → Stp [] w h w1 h1 → w1.heap[b]? = some (.cells cs.toArray e (0, 0)) → (∀ o, h1 b o = cs[o]?) → WL P n ops Q rest ((d, .slice (some ⟨b, 0, none⟩) len len) :: E) w1) :
    WL P n ops Q (⟨some d, .buildSlice t len parts.toArray, ty, ps, af, g⟩ :: rest) E w := by
  refine WL.val rfl hn hg (w' := w.alloc (.cells cs.toArray e)) (v := .slice (some ⟨w.heap.size, 0, none⟩) len len) (fun m a ha => ?_) (k _ _ _ rfl (alloc_row hs cs e) (by show (w.heap.push _)[w.heap.size]? = _; simp) (fun o => hadd_new h _ cs o))
  have key := parts_ev ha hv
  have h1 : ¬ (len * z > 2 ^ 24) := by
    have := Nat.le_of_ble_eq_true hlen
    omega
  have h2 : len * z ≠ 0 := by
    have := Nat.le_of_ble_eq_true hpos
    omega
  simp only [execOp, Instr.buildSlice, Sem.run_bind, run_underlying ht w, Result.andThen_ok, Z83 hz, h1, if_false, h2, run_zero hze, Sem.run_pure, List.map_toArray, key, hf]
  simp [newRow]
end
end Go.Proofs.YtkodnhngllfemaaGreatDoor
