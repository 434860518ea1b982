import Derived.Test.YtkodnhngllfemaaGreatDoorB18
import Derived.RangeFuncRecord
import Derived.RangeFuncSeq
import Derived.OrdersIn
import Derived.TacticsIn
set_option linter.unusedVariables false
set_option linter.unusedSimpArgs false
namespace Go.Proofs.YtkodnhngllfemaaGreatDoor
open Go
def ErrV (v : Value) : Bool → Prop
  | true => v = .nilIface
  | false => ∃ T p, v = .iface T p
def PtrR {α : Type} (C : World → Hp → Nat → α → Prop) (w0 w1 : World) (h1 : Hp) (v : Value) : Option α → Prop
  | none => v = .pointer none
  | some x => ∃ b, v = .pointer (some ⟨b, 0, none⟩) ∧ w0.heap.size ≤ b ∧ C w1 h1 b x
section
variable {α : Type} {C : World → Hp → Nat → α → Prop} {w0 w1 : World} {h1 : Hp} {v : Value}
theorem PtrR.nil : PtrR C w0 w1 h1 (.pointer none) none := rfl
theorem PtrR.new {b : Nat} {x : α} (hge : w0.heap.size ≤ b) (hc : C w1 h1 b x) : PtrR C w0 w1 h1 (.pointer (some ⟨b, 0, none⟩)) (some x) := ⟨b, rfl, hge, hc⟩
end
theorem OB.ne_ge {w : World} {h : Hp} {T b c : Nat} {cs : List Value} (ob : OB w h b T cs) (hc : w.heap.size ≤ c) : b ≠ c := by
  have := ob.lt
  omega
section
variable {P : Program} {n : NS} {ops : Array Oper} {Q : Exit → Act → World → Prop} {E : Env} {w w' : World} {h : Hp} {rest : List Oper} {d : Nat} {dd : Option Tmp} {ty : TypeId} {ps : String} {af : Array Edge} {g : Option (Nat × Bool)} {x : Operand} {t u : TypeId} {v : Value}
theorem ov_eqlE {b : Bool} (hx : ev E x = some v) (hv : ErrV v b) (ht : P.underlying t = some (.interface (P.methodsAt t))) : OV P ⟨dd, .binOp .eql t x (.const .nilIface) u, ty, ps, af, g⟩ E w (.bool b) w := by
  cases b with
  | true => obtain rfl : v = .nilIface := hv; exact ov_eqlNN hx ht
  | false => obtain ⟨T, p, rfl⟩ := hv; exact ov_eqlHN hx ht
theorem ov_buildSliceD {e z : TypeId} {len : Nat} {parts : List (Nat × Operand)} {us cs : List Value} {zv : Value}
    (hv : parts.map (fun p => (ev E p.2).map (p.1, ·)) = ((us.zipIdx 0).map fun x => (x.2, x.1)).map some) (ht : P.underlying t = some (.slice e)) (hz : Zhb P e = some z) (hze : tZero P e = some zv) (hl : us.length = len) (hsz : ∀ u ∈ us, u.cells.size = z) (hcs : us.flatMap (fun v => v.cells.toList) = cs) (hpos : Nat.ble 1 (len * z) = true) (hlen : Nat.ble (len * z) 1000 = true) :
    OV P ⟨dd, .buildSlice t len parts.toArray, ty, ps, af, g⟩ E w (.slice (some ⟨w.heap.size, 0, none⟩) len len) (w.alloc (.cells cs.toArray e)) := fun m a ha => by
  have hpos' := Nat.le_of_ble_eq_true hpos
  have hz0 : 0 < z := by
    rcases Nat.eq_zero_or_pos z with q | q
    · subst q; simp at hpos'
    · exact q
  have hf : Instr.fill (fun i => some (i * z, z)) ((Array.range (len * z)).map (zv.cells[· % zv.cells.size]!)) ((us.zipIdx 0).map fun x => (x.2, x.1)) = some cs.toArray := by
    rw [← hcs]; exact Go.Great.fill_whole hz0 us _ hsz (by simp [hl])
  have key := parts_ev ha hv
  have h1 : ¬ (len * z > 2 ^ 24) := by
    have := Nat.le_of_ble_eq_true hlen
    omega
  have h2 : len * z ≠ 0 := by omega
  simp only [execOp, Instr.buildSlice, Sem.run_bind, run_underlying ht w, Result.andThen_ok, Z83 hz, h1, if_false, h2, run_zero hze, Sem.run_pure, List.map_toArray, key, hf]
  simp [newRow]
abbrev YS := List Tok × Option Int
def yfTok (s : YS) (t : Tok) (n : Int) : Option (Bool × YS) :=
  bif s.2.isSome then none else bif n == 0 then some (false, (s.1, some t.pos)) else if s.1.length + 1 < 1000000000 then some (true, (s.1 ++ [t], none)) else none
def YM (MY : List Nat) (w : World) (h : Hp) (M : List Nat) : Prop := ∀ b ∈ M, b ∉ MY ∧ ∃ T cs, OB w h b T cs
theorem Z6c {MY : List Nat} {w : World} {h : Hp} : YM MY w h [] := fun b hb => by cases hb
theorem Z91 {MY M : List Nat} {w : World} {h : Hp} {b T : Nat} {cs : List Value} (hb : b ∉ MY) (ob : OB w h b T cs) (t : YM MY w h M) : YM MY w h (b :: M) := fun c hc => by
  rcases List.mem_cons.1 hc with rfl | hc
  · exact ⟨hb, T, cs, ob⟩
  · exact t c hc
theorem ny_new {MY : List Nat} {b B : Nat} (hMY : ∀ i ∈ MY, i < B) (hb : B ≤ b) : b ∉ MY := fun q => by have := hMY b q; omega
def WI (F : Fence) (P : Program) (n : NS) (ops : Array Oper) (Q : Exit → Act → World → Prop) (l : List Oper) (E : Env) (w : World) : Prop := ∀ a, At n E a → wpListIn F 0 P ops Q l a w
def WZ (F : Fence) (P : Program) (n : NS) (c : Code) (Q : Exit → Act → World → Prop) (E : Env) (w : World) : Prop := ∀ a, At n E a → c.wpIn F 0 P Q a w
theorem WC.regionI {id : Nat} (k : WI Fence.wide P n ops Q ops.toList E w) : WC P n (.region id ops false) Q E w := fun a ha => wpIn_wide.1 (wpIn_region_list (k a ha))
variable {F : Fence}
theorem WI.nil (k : WQ n Q .normal E w) : WI F P n ops Q [] E w := fun a ha => wpListIn_nil (k a ha)
theorem WI.val (hF : ∀ f, F.fn f) {o : Oper} (hd : o.dst = some d) (hn : Nat.blt d n = true) (hg : Z8f ops E o = some true) (hno : ∀ c, o.op ≠ .defer c) (ho : OV P o E w v w') (k : WI F P n ops Q rest ((d, v) :: E) w') : WI F P n ops Q (o :: rest) E w := fun a ha => by
  unfold wpListIn
  rw [if_pos (Z6e ha hg)]
  unfold Oper.wpIn
  refine ⟨fun f _ => hF f, ?_⟩
  have e : Oper.semAt F.round a.eval o = execOp a.eval o := by
    rcases hr : F.round with _ | l
    · exact Oper.semAt_none _ _
    · exact Oper.semAt_some l _ o hno
  rw [e, ho n a ha, Oper.uponIn_value, hd]
  exact k _ (ha.put (by simpa [Nat.blt_eq] using hn) v)
theorem WI.unit (hF : ∀ f, F.fn f) {o : Oper} (hd : o.dst = none) (hg : Z8f ops E o = some true) (hno : ∀ c, o.op ≠ .defer c) (ho : OU P o E w w') (k : WI F P n ops Q rest E w') : WI F P n ops Q (o :: rest) E w := fun a ha => by
  unfold wpListIn
  rw [if_pos (Z6e ha hg)]
  unfold Oper.wpIn
  refine ⟨fun f _ => hF f, ?_⟩
  have e : Oper.semAt F.round a.eval o = execOp a.eval o := by
    rcases hr : F.round with _ | l
    · exact Oper.semAt_none _ _
    · exact Oper.semAt_some l _ o hno
  rw [e, ho n a ha, Oper.uponIn_skip, hd]
  exact k _ ha
theorem WI.pass (hF : ∀ f, F.fn f) {o : Oper} (hd : o.dst = some d) (hn : Nat.blt d n = true) (hg : Z8f ops E o = some false) (k : WI F P n ops Q rest ((d, undef) :: E) w) : WI F P n ops Q (o :: rest) E w := fun a ha => by
  unfold wpListIn
  rw [if_neg (by rw [Z6e ha hg]; decide)]
  refine ⟨fun f _ => hF f, ?_⟩
  rw [hd]
  exact k _ (ha.put (by simpa [Nat.blt_eq] using hn) _)
theorem WI.know {l : List Oper} (t : Nat) {v v' : Value} (hv : lk E t = some v) (e : v = v') (k : WI F P n ops Q l ((t, v') :: E) w) : WI F P n ops Q l E w := fun a ha => k a (ha.sub fun u x hx => by
  simp only [lk] at hx
  cases hb : Nat.beq t u with
  | true =>
    rw [hb] at hx
    have := Nat.eq_of_beq_eq_true hb
    subst this
    simp at hx
    rw [hv, e, hx]
  | false => rw [hb] at hx; simpa using hx)
theorem WI.split {l : List Oper} (t : Nat) {b : Bool} (hv : lk E t = some (.bool b)) (kt : b = true → WI F P n ops Q l ((t, .bool true) :: E) w) (kf : b = false → WI F P n ops Q l ((t, .bool false) :: E) w) : WI F P n ops Q l E w := by
  cases b with
  | true => exact WI.know t hv rfl (kt rfl)
  | false => exact WI.know t hv rfl (kf rfl)
theorem WI.yield {l : Nat} {xs : List Operand} {vs : List Value} {ats : Array TypeId} {K : Bool → World → Prop} (hn : Nat.blt d n = true) (hg : Z8f ops E ⟨some d, .call ⟨.value x, xs.toArray, ats⟩, ty, ps, af, g⟩ = some true)
    (hx : ev E x = some (.func (.yield l) #[] #[])) (hv : xs.map (ev E) = vs.map some) (hy : YieldAt Fence.wide 0 P l vs.toArray w fun e w1 => ∃ b, e = .returned (.bool b) ∧ K b w1)
    (k : ∀ b w1, K b w1 → WI Fence.wide P n ops Q rest ((d, .bool b) :: E) w1) : WI Fence.wide P n ops Q (⟨some d, .call ⟨.value x, xs.toArray, ats⟩, ty, ps, af, g⟩ :: rest) E w := fun a ha => by
  obtain ⟨fn, tmps, assign, body, hy1, hR⟩ := hy
  unfold wpListIn
  rw [if_pos (Z6e ha hg)]
  unfold Oper.wpIn
  refine ⟨fun f _ => trivial, ?_⟩
  have e : (Oper.semAt Fence.wide.round a.eval ⟨some d, .call ⟨.value x, xs.toArray, ats⟩, ty, ps, af, g⟩).run P w = .ok (.round l fn tmps assign body) w := by
    rw [Fence.wide_round, Oper.semAt_none]
    simp only [execOp, resolve, ha.ev hx, Deferred.ofValue, Sem.run_bind, Sem.run_pure, Result.andThen_ok, invoke, List.map_toArray, map_ev ha hv]
    simpa using hy1
  rw [e, Oper.uponIn_round]
  refine ⟨fun hd => (by simp [Fence.wide] at hd), RoundIn.mono hR ?_⟩
  rintro e1 w1 ⟨b, rfl, hk⟩
  exact k b w1 hk _ (ha.put (by simpa [Nat.blt_eq] using hn) _)
theorem WZ.region {id : Nat} (k : WI F P n ops Q ops.toList E w) : WZ F P n (.region id ops false) Q E w := fun a ha => wpIn_region_list (k a ha)
theorem WZ.seq {x y : Code} (k : WZ F P n x (Exit.then (y.wpIn F 0 P Q) Q) E w) : WZ F P n (.seq x y) Q E w := fun a ha => wpIn_seq (k a ha)
theorem WZ.skip (k : WQ n Q .normal E w) : WZ F P n .skip Q E w := fun a ha => wpIn_skip (k a ha)
theorem WZ.ret (k : WQ n Q .ret E w) : WZ F P n .ret Q E w := fun a ha => wpIn_ret (k a ha)
theorem WZ.block {id : Nat} {c : Code} (k : WZ F P n c (Exit.inBlock id Q) E w) : WZ F P n (.block id c) Q E w := fun a ha => wpIn_block (k a ha)
theorem WZ.condT {c : Operand} {x y : Code} (hc : ev E c = some (.bool true)) (k : WZ F P n x Q E w) : WZ F P n (.cond c x y) Q E w := fun a ha => wpIn_cond_true (ha.ev hc) (k a ha)
theorem WZ.condF {c : Operand} {x y : Code} (hc : ev E c = some (.bool false)) (k : WZ F P n y Q E w) : WZ F P n (.cond c x y) Q E w := fun a ha => wpIn_cond_false (ha.ev hc) (k a ha)
theorem WQ.seqD {y : Code} (k : WZ F P n y Q E w) : WQ n (Exit.then (y.wpIn F 0 P Q) Q) .normal E w := k
def WB (F : Fence) (P : Program) (n : NS) (ops : Array Oper) (Q : Exit → Act → World → Prop) (fuel : Nat) (L : Array Bool) (E : Env) (w : World) : Prop := ∀ a, At n E a → wpAnyIn F 0 P .any ops Q fuel L a w
theorem WZ.drawn {id : Nat} (hm : P.follows .mixedOrders = true) (hs : Sub h w) (k : ∀ w1, Stp [] w h w1 h → WB F P n ops Q ops.size (Array.replicate ops.size false) E w1) : WZ F P n (.region id ops true) Q E w := fun a ha =>
  wpIn_region_any hm (k _ (Stp.drew hs _) a ha)
theorem WB.fin {fuel : Nat} {L : Array Bool} (hr : Region.ready .any ops L = []) (k : WQ n Q .normal E w) : WB F P n ops Q fuel L E w := fun a ha => by
  cases fuel with
  | zero => exact ⟨hr, k a ha⟩
  | succ f => exact ⟨fun _ => k a ha, fun i hi => by rw [hr] at hi; cases hi⟩
theorem Zgb {i : Nat} {o : Oper} {N : Act → World → Prop} {a : Act} (ho : ops[i]? = some o) (hh : wpListIn F 0 P ops (Exit.then N Q) [o] a w) : wpOpIn F 0 P ops Q i N a w := by
  unfold wpOpIn
  simp only [ho]
  simp only [wpListIn] at hh
  have conv : ∀ {a w}, o.wpIn F 0 P a w (fun a w => Exit.then N Q .normal a w) (Exit.then N Q) → o.wpIn F 0 P a w N Q := by
    intro a w hh
    unfold Oper.wpIn at *
    refine ⟨hh.1, ?_⟩
    have hh := hh.2
    generalize (o.semAt F.round a.eval).run P w = r at *
    cases r with
    | ok x w' => cases x <;> first | exact hh | (simp only [Oper.uponIn] at hh ⊢; exact hh)
    | halt x w' => cases x <;> first | exact hh | (simp only [Oper.uponIn] at hh ⊢; exact hh)
  split
  · rename_i hw; rw [if_pos hw] at hh; exact conv hh
  · rename_i hw; rw [if_neg hw] at hh; exact hh
theorem WB.one {fuel i : Nat} {L : Array Bool} {o : Oper} (hr : Region.ready .any ops L = [i]) (ho : ops[i]? = some o) (k : WI F P n ops (Exit.then (wpAnyIn F 0 P .any ops Q fuel (L.setIfInBounds i true)) Q) [o] E w) : WB F P n ops Q (fuel + 1) L E w := fun a ha =>
  ⟨fun hc => (by rw [hr] at hc; cases hc), fun j hj => by rw [hr, List.mem_singleton] at hj; subst hj; exact Zgb ho (k a ha)⟩
theorem WB.two {fuel i j : Nat} {L : Array Bool} {o p : Oper} (hr : Region.ready .any ops L = [i, j]) (ho : ops[i]? = some o) (hp : ops[j]? = some p) (k : WI F P n ops (Exit.then (wpAnyIn F 0 P .any ops Q fuel (L.setIfInBounds i true)) Q) [o] E w)
    (k2 : WI F P n ops (Exit.then (wpAnyIn F 0 P .any ops Q fuel (L.setIfInBounds j true)) Q) [p] E w) : WB F P n ops Q (fuel + 1) L E w := fun a ha =>
  ⟨fun hc => (by rw [hr] at hc; cases hc), fun q hq => by
    rw [hr] at hq
    rcases List.mem_cons.1 hq with rfl | hq
    · exact Zgb ho (k a ha)
    · rw [List.mem_singleton] at hq; subst hq; exact Zgb hp (k2 a ha)⟩
theorem Zew {fuel : Nat} {L : Array Bool} (k : WB F P n ops Q fuel L E w) : WQ n (Exit.then (wpAnyIn F 0 P .any ops Q fuel L) Q) .normal E w := k
end
end Go.Proofs.YtkodnhngllfemaaGreatDoor
