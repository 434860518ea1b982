import Derived.Test.YtkodnhngllfemaaGreatDoorB9
import Derived.MapKept
import Derived.WideMake
import Derived.Laws.IdiomStrings
import Derived.Lib.AppendStr
set_option linter.unusedVariables false
set_option linter.unusedSimpArgs false
namespace Go.Proofs.YtkodnhngllfemaaGreatDoor
open Go
section
variable {P : Program} {n : NS} {ops : Array Oper} {Q : Exit → Act → World → Prop} {E : Env} {w w' : World} {h : Hp} {rest : List Oper} {d : Option Tmp} {dd : Nat} {ty : TypeId} {ps : String} {af : Array Edge} {g : Option (Nat × Bool)}
theorem run_checkKey_int {b : Bool} {m : Nat} {kt : TypeId} {q : IntKind} {v : Value} (hk : P.underlying kt = some (.int q)) : (Instr.checkKey b (m + 1) kt v).run P w = .ok () w := by
  simp [Instr.checkKey, run_underlying hk]
theorem run_checkKey_str {b : Bool} {m : Nat} {kt : TypeId} {v : Value} (hk : P.underlying kt = some .string) : (Instr.checkKey b (m + 1) kt v).run P w = .ok () w := by
  simp [Instr.checkKey, run_underlying hk]
theorem run_lookupI {V : Type} {evl : V → Value} {T : List (Int × V)} {z : V} {m : Value} {k : Int} {t kt et : TypeId} {ok : Bool} (ht : P.underlying t = some (.map kt et)) (hkt : P.underlying kt = some (.int .i64)) (hz : tZero P et = some (evl z)) (rm : RM evl h m T) (hs : Sub h w) :
    (Instr.lookup t m (.int .i64 k) ok).run P w = .ok (if ok then .tuple #[evl ((tgetI T k).getD z), .bool (tgetI T k).isSome] else evl ((tgetI T k).getD z)) w := by
  obtain ⟨b, es, rfl, hmp, hes⟩ := rm
  obtain ⟨clk, hh⟩ := hs.maps b es hmp
  obtain ⟨r, hr, hm⟩ := hes k
  have hck : (Instr.checkKey es.isEmpty 10000 kt (.int .i64 k)).run P w = .ok () w := run_checkKey_int (m := 9999) hkt
  have hf : (Instr.findKey kt (.int .i64 k) es.toList).run P w = .ok r w := Go.MapKept.run_findKey hkt hr
  simp only [Instr.lookup, Sem.run_bind, run_underlying ht, Result.andThen_ok, Go.MapKept.run_getObj_map hh, Sem.run_pure, hck, hf]
  cases r with
  | none =>
    have e : tgetI T k = none := by cases q : tgetI T k with
      | none => rfl
      | some x => have hm' : (none : Option (Nat × Value)).map (·.2) = (tgetI T k).map evl := hm
                  rw [q] at hm'; cases hm'
    simp [e, run_zero hz]
  | some p =>
    obtain ⟨x, hx1, hx2⟩ : ∃ x, tgetI T k = some x ∧ evl x = p.2 := by
      have hm' : (some p).map (·.2) = (tgetI T k).map evl := hm
      cases q : tgetI T k with
      | none => rw [q] at hm'; cases hm'
      | some x => rw [q] at hm'; simp at hm'; exact ⟨x, rfl, hm'.symm⟩
    simp [hx1, hx2]
theorem run_lookupS {V : Type} {evl : V → Value} {T : List (ByteArray × V)} {z : V} {m : Value} {k : ByteArray} {t kt et : TypeId} {ok : Bool} (ht : P.underlying t = some (.map kt et)) (hkt : P.underlying kt = some .string) (hz : tZero P et = some (evl z)) (rm : RM evl h m T) (hs : Sub h w) :
    (Instr.lookup t m (.string k) ok).run P w = .ok (if ok then .tuple #[evl ((tgetS T k).getD z), .bool (tgetS T k).isSome] else evl ((tgetS T k).getD z)) w := by
  obtain ⟨b, es, rfl, hmp, hes⟩ := rm
  obtain ⟨clk, hh⟩ := hs.maps b es hmp
  obtain ⟨r, hr, hm⟩ := hes k
  have hck : (Instr.checkKey es.isEmpty 10000 kt (.string k)).run P w = .ok () w := run_checkKey_str (m := 9999) hkt
  have hf : (Instr.findKey kt (.string k) es.toList).run P w = .ok r w := Go.MapKept.run_findKey hkt hr
  simp only [Instr.lookup, Sem.run_bind, run_underlying ht, Result.andThen_ok, Go.MapKept.run_getObj_map hh, Sem.run_pure, hck, hf]
  cases r with
  | none =>
    have e : tgetS T k = none := by cases q : tgetS T k with
      | none => rfl
      | some x => have hm' : (none : Option (Nat × Value)).map (·.2) = (tgetS T k).map evl := hm
                  rw [q] at hm'; cases hm'
    simp [e, run_zero hz]
  | some p =>
    obtain ⟨x, hx1, hx2⟩ : ∃ x, tgetS T k = some x ∧ evl x = p.2 := by
      have hm' : (some p).map (·.2) = (tgetS T k).map evl := hm
      cases q : tgetS T k with
      | none => rw [q] at hm'; cases hm'
      | some x => rw [q] at hm'; simp at hm'; exact ⟨x, rfl, hm'.symm⟩
    simp [hx1, hx2]
theorem ov_lookupI2 {V : Type} {evl : V → Value} {T : List (Int × V)} {z : V} {m : Value} {k : Int} {r : Option V} {x i : Operand} {t kt et : TypeId} (hx : ev E x = some m) (hi : ev E i = some (.int .i64 k)) (ht : P.underlying t = some (.map kt et)) (hkt : P.underlying kt = some (.int .i64)) (hz : tZero P et = some (evl z)) (rm : RM evl h m T) (hs : Sub h w) (hr : tgetI T k = r) :
    OV P ⟨d, .lookup t x i true, ty, ps, af, g⟩ E w (.tuple #[evl (r.getD z), .bool r.isSome]) w := fun n a ha => by
  subst hr
  simp [execOp, ha.ev hx, ha.ev hi, run_lookupI (k := k) (ok := true) ht hkt hz rm hs]
theorem ov_lookupS2 {V : Type} {evl : V → Value} {T : List (ByteArray × V)} {z : V} {m : Value} {k : ByteArray} {r : Option V} {x i : Operand} {t kt et : TypeId} (hx : ev E x = some m) (hi : ev E i = some (.string k)) (ht : P.underlying t = some (.map kt et)) (hkt : P.underlying kt = some .string) (hz : tZero P et = some (evl z)) (rm : RM evl h m T) (hs : Sub h w) (hr : tgetS T k = r) :
    OV P ⟨d, .lookup t x i true, ty, ps, af, g⟩ E w (.tuple #[evl (r.getD z), .bool r.isSome]) w := fun n a ha => by
  subst hr
  simp [execOp, ha.ev hx, ha.ev hi, run_lookupS (k := k) (ok := true) ht hkt hz rm hs]
structure MB (w : World) (h : Hp) (b : Nat) (T : List (Value × Value)) : Prop where
  heap : ∃ es clk, w.heap[b]? = some (.map es clk) ∧ es.toList.map (fun e => (e.key, e.val)) = T
  free : h.mp b = none
  ge : h.base ≤ b
theorem MB.lt {b : Nat} {T : List (Value × Value)} (m : MB w h b T) : b < w.heap.size := by
  obtain ⟨es, clk, e, _⟩ := m.heap
  exact (Array.getElem?_eq_some_iff.1 e).1
theorem MB.step {M : List Nat} {h' : Hp} {b : Nat} {T : List (Value × Value)} (m : MB w h b T) (s : Stp M w h w' h') (hm : b ∉ M) : MB w' h' b T := by
  obtain ⟨es, clk, e, e2⟩ := m.heap
  exact ⟨⟨es, clk, (s.block b m.lt hm).trans e, e2⟩, (s.newm b m.lt hm).trans m.free, by rw [s.eqb]; exact m.ge⟩
theorem MB.step0 {h' : Hp} {b : Nat} {T : List (Value × Value)} (m : MB w h b T) (s : Stp [] w h w' h') : MB w' h' b T := m.step s (by simp)
theorem MB.step1 {h' : Hp} {b c : Nat} {T : List (Value × Value)} (m : MB w h b T) (s : Stp [c] w h w' h') (hne : b ≠ c) : MB w' h' b T := m.step s (by simpa using hne)
theorem MB.ne_new {b c : Nat} {T : List (Value × Value)} (m : MB w h b T) (hc : c = w.heap.size) : b ≠ c := by have := m.lt; omega
theorem Zbu {t : TypeId} (hn : Nat.blt dd n = true) (hg : Z8f ops E ⟨some dd, .makeMap t none, ty, ps, af, g⟩ = some true) (hs : Sub h w)
    (k : ∀ w1 b, b = w.heap.size → Stp [] w h w1 h → MB w1 h b [] → WL P n ops Q rest ((dd, .map (some b)) :: E) w1) : WL P n ops Q (⟨some dd, .makeMap t none, ty, ps, af, g⟩ :: rest) E w := by
  refine WL.val rfl hn hg (w' := w.alloc (.map #[] 0)) (v := .map (some w.heap.size)) (fun m a ha => ?_) (k _ _ rfl (Zcu hs _) ⟨⟨#[], 0, ?_, rfl⟩, ?_, hs.big⟩)
  · simp only [execOp, Option.map_none, Go.run_makeMap_plain, Sem.run_bind, Result.andThen_ok, Sem.run_pure]
  · show (w.heap.push _)[w.heap.size]? = _; simp
  · cases e : h.mp w.heap.size with
    | none => rfl
    | some es =>
      obtain ⟨clk, hk⟩ := hs.maps _ _ e
      have := (Array.getElem?_eq_some_iff.1 hk).1
      omega
theorem setObj_stp {b : Nat} {T : List (Value × Value)} (hs : Sub h w) (m : MB w h b T) (es : Array MapEntry) (clk : Nat) : Stp [b] w h { w with heap := w.heap.setIfInBounds b (.map es clk) } h := by
  obtain ⟨es0, clk0, hb, _⟩ := m.heap
  have other : ∀ i, i ≠ b → (w.heap.setIfInBounds b (.map es clk))[i]? = w.heap[i]? := fun i hi => by
    rw [Array.getElem?_setIfInBounds, if_neg (Ne.symm hi)]
  refine ⟨rfl, rfl, rfl, by simp, fun i _ hn => other i (by simpa using hn), ⟨fun c o v e => ?_, by simpa using hs.big, fun i hi => ?_, hs.glob, fun c es1 e => ?_⟩, rfl, rfl, Hle.refl h, fun _ _ _ _ => rfl, fun _ _ _ => rfl⟩
  · have h1 := hs.at_ c o v e
    have hne : c ≠ b := fun q => by subst q; simp [World.cell?, hb] at h1
    simp only [World.cell?] at h1 ⊢
    rw [other c hne]; exact h1
  · have := m.ge
    exact (other i (by omega)).trans (hs.lows i hi)
  · obtain ⟨clk1, h1⟩ := hs.maps c es1 e
    have hne : c ≠ b := fun q => by subst q; rw [m.free] at e; cases e
    exact ⟨clk1, (other c hne).trans h1⟩
def fresh1 (d : TypeDesc) (k : Value) : List (Value × Value) → Bool
  | [] => true
  | p :: T => (match Instr.sameNow d k p.1 with | some false => true | _ => false) && fresh1 d k T
theorem findNow_fresh {dsc : TypeDesc} {k : Value} : ∀ {es : List MapEntry} {T : List (Value × Value)} {i : Nat}, es.map (fun e => (e.key, e.val)) = T → fresh1 dsc k T = true → Instr.findNow dsc k es i = some none
  | [], T, i, he, _ => rfl
  | e :: es, T, i, he, hf => by
    subst he
    simp only [List.map_cons, fresh1, Bool.and_eq_true] at hf
    have ih := findNow_fresh (i := i + 1) (es := es) rfl hf.2
    unfold Instr.findNow
    split at hf
    · rename_i h1
      rw [h1]; exact ih
    · simp at hf
theorem Z47 {t kt et : TypeId} {x y z : Operand} {b : Nat} {T : List (Value × Value)} {dsc : TypeDesc} {kv v : Value} (hg : Z8f ops E ⟨none, .insert t x y z, ty, ps, af, g⟩ = some true) (hx : ev E x = some (.map (some b))) (hy : ev E y = some kv) (hz : ev E z = some v)
    (ht : P.underlying t = some (.map kt et)) (hkt : P.underlying kt = some dsc) (hd : dsc = .string ∨ ∃ q, dsc = .int q) (m : MB w h b T) (hs : Sub h w) (hf : fresh1 dsc kv T = true) 
    (k : ∀ w1, Stp [b] w h w1 h → MB w1 h b (T ++ [(kv, v)]) → WL P n ops Q rest E w1) : WL P n ops Q (⟨none, .insert t x y z, ty, ps, af, g⟩ :: rest) E w := by
  obtain ⟨es, clk, hb, hes⟩ := m.heap
  have hck : (Instr.checkKey false 10000 kt kv).run P w = .ok () w := by
    rcases hd with rfl | ⟨q, rfl⟩
    · exact run_checkKey_str (m := 9999) hkt
    · exact run_checkKey_int (m := 9999) hkt
  have hfn := Go.MapKept.run_findKey (P := P) (w := w) hkt (findNow_fresh (i := 0) hes hf)
  have hlt := m.lt
  refine WL.unit rfl hg (w' := { w with heap := w.heap.setIfInBounds b (.map (es.push { key := kv, val := v, born := clk }) (clk + 1)) }) (fun q a ha => ?_) (k _ (setObj_stp hs m _ _) ⟨⟨es.push { key := kv, val := v, born := clk }, clk + 1, ?_, ?_⟩, m.free, m.ge⟩)
  · simp only [execOp, ha.ev hx, ha.ev hy, ha.ev hz, Instr.mapUpdate, Sem.run_bind, run_underlying ht, Result.andThen_ok, Go.MapKept.run_getObj_map hb, Sem.run_pure, hck, hfn]
    have := Go.MapKept.run_setObj_map (P := P) (.map (es.push { key := kv, val := v, born := clk }) (clk + 1)) hb
    unfold setObj at this
    simp only [setObj, this, Result.andThen_ok]
    try simp [Array.setIfInBounds]
  · simp [Array.getElem?_setIfInBounds, hlt]
  · simp [hes]
theorem MB.freeze {K V : Type} [KeyT K] {evl : V → Value} {b : Nat} {T : List (K × V)} (m : MB w h b (T.map fun p => (KeyT.ek p.1, evl p.2))) (hs : Sub h w) : ∃ h', Stp [b] w h w h' ∧ RM evl h' (.map (some b)) T := by
  obtain ⟨es, clk, hb, hes⟩ := m.heap
  let h' : Hp := { h with mp := fun c => if c = b then some es else h.mp c }
  have hle : Hle h h' := ⟨fun _ _ _ e => e, fun c es1 e => by
    show (if c = b then some es else h.mp c) = some es1
    have hne : c ≠ b := fun q => by subst q; rw [m.free] at e; cases e
    rw [if_neg hne]; exact e⟩
  refine ⟨h', ⟨rfl, rfl, rfl, Nat.le_refl _, fun _ _ _ => rfl, ⟨hs.at_, hs.big, hs.lows, hs.glob.mono hle rfl rfl, fun c es1 e => ?_⟩, rfl, rfl, hle, fun _ _ _ _ => rfl, fun i hi hn => ?_⟩, b, es, rfl, by simp [h'], fun k => KeyT.find k hes⟩
  · have e' : (if c = b then some es else h.mp c) = some es1 := e
    by_cases hc : c = b
    · subst hc; rw [if_pos rfl] at e'; cases e'; exact ⟨clk, hb⟩
    · rw [if_neg hc] at e'; exact hs.maps c es1 e'
  · have hne : i ≠ b := by simpa using hn
    show (if i = b then some es else h.mp i) = _
    rw [if_neg hne]
end
end Go.Proofs.YtkodnhngllfemaaGreatDoor
