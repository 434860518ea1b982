import Derived.Test.YtaknpdhmhifpeaaGreatDoorL9
import Derived.Test.YtaknpdhmhifpeaaGreatDoorL8
import Derived.Test.YtaknpdhmhifpeaaGreatDoorL7
import Derived.Test.YtaknpdhmhifpeaaGreatDoorL3g
set_option linter.unusedVariables false
set_option linter.unusedSimpArgs false
namespace Go.Proofs.YtaknpdhmhifpeaaGreatDoor
open Go

/-! ### 66. Texts of statements: what both make -/
noncomputable def tx (l : List Ex) (i : Nat) : List UInt8 := ((l[i]?).map fun a => (txt a).data.toList).getD []
mutual
noncomputable def stT : St → List UInt8 → List UInt8
  | .mk op name index fields args n body arms other els, i =>
    bif op == 1 then i ++ (name.data.toList ++ ((bif index.isEmpty then [] else 91 :: (tx index 0 ++ [93])) ++ ([32, 58, 61, 32] ++ (tx args 0 ++ [59, 10]))))
    else bif op == 2 then i ++ (name.data.toList ++ (40 :: ((Zcx (fT fields args)).data.toList ++ [41, 59, 10])))
    else bif op == 3 then i ++ ([105, 102, 32] ++ (tx args 0 ++ ([32, 116, 104, 101, 110, 10] ++ (slT body (i ++ [32, 32]) ++ (alT arms false i ++ ((bif els then i ++ ([101, 108, 115, 101, 10] ++ slT other (i ++ [32, 32])) else []) ++ (i ++ [101, 110, 100, 95, 105, 102, 59, 10])))))))
    else bif op == 4 then i ++ ([99, 97, 115, 101, 32] ++ (tx args 0 ++ ([32, 111, 102, 10] ++ (alT arms true i ++ ((bif els then i ++ ([101, 108, 115, 101, 10] ++ slT other (i ++ [32, 32])) else []) ++ (i ++ [101, 110, 100, 95, 99, 97, 115, 101, 59, 10]))))))
    else bif op == 5 then i ++ ([102, 111, 114, 32] ++ (name.data.toList ++ ([32, 58, 61, 32] ++ (tx args 0 ++ ([32, 116, 111, 32] ++ (tx args 1 ++ ((bif n != 1 then [32, 98, 121, 32] ++ (Zaq n).data.toList else []) ++ ([32, 100, 111, 10] ++ (slT body (i ++ [32, 32]) ++ (i ++ [101, 110, 100, 95, 102, 111, 114, 59, 10]))))))))))
    else bif op == 6 then i ++ ([119, 104, 105, 108, 101, 32] ++ (tx args 0 ++ ([32, 100, 111, 10] ++ (slT body (i ++ [32, 32]) ++ (i ++ [101, 110, 100, 95, 119, 104, 105, 108, 101, 59, 10])))))
    else bif op == 7 then i ++ ([114, 101, 112, 101, 97, 116, 10] ++ (slT body (i ++ [32, 32]) ++ (i ++ ([117, 110, 116, 105, 108, 32] ++ (tx args 0 ++ (10 :: (i ++ [101, 110, 100, 95, 114, 101, 112, 101, 97, 116, 59, 10])))))))
    else bif op == 8 then i ++ [101, 120, 105, 116, 59, 10]
    else i ++ [114, 101, 116, 117, 114, 110, 59, 10]
noncomputable def arT : Ar → Bool → List UInt8 → List UInt8
  | .mk cond labels body, c, i =>
    bif c then i ++ ([32, 32] ++ ((Zcx (labels.map Zaq)).data.toList ++ ([58, 10] ++ slT body (i ++ [32, 32, 32, 32]))))
    else i ++ ([101, 108, 115, 105, 102, 32] ++ (tx cond 0 ++ ([32, 116, 104, 101, 110, 10] ++ slT body (i ++ [32, 32]))))
noncomputable def slT : List St → List UInt8 → List UInt8
  | [], _ => []
  | s :: l, i => stT s i ++ slT l i
noncomputable def alT : List Ar → Bool → List UInt8 → List UInt8
  | [], _, _ => []
  | a :: l, c, i => arT a c i ++ alT l c i
end
mutual
def St.labs : St → Nat
  | .mk _ _ _ _ _ _ body arms other _ => Zc6 body + labsAL arms + Zc6 other
def Ar.labs : Ar → Nat
  | .mk _ labels body => labels.length + Zc6 body
def Zc6 : List St → Nat
  | [] => 0
  | s :: l => s.labs + Zc6 l
def labsAL : List Ar → Nat
  | [] => 0
  | a :: l => a.labs + labsAL l
end
theorem tx_0 {l : List Ex} {a : Ex} {r : List Ex} (h : l = a :: r) : tx l 0 = (txt a).data.toList := by subst h; rfl
theorem tx_1 {l : List Ex} {a b : Ex} {r : List Ex} (h : l = a :: b :: r) : tx l 1 = (txt b).data.toList := by subst h; rfl
theorem Z55 (k : Nat) {u : Bool} {xs : List UInt8} {b s : ByteArray} (h : xs.length + b.size + s.size < 990000000) : Z08 k u xs b s = some (true, xs ++ (b.data.toList ++ (s.data.toList ++ [10]))) := by
  unfold Z08 Z3k Z41
  have hz : (⟨#[10]⟩ : ByteArray).size = 1 := rfl
  rw [if_pos (by omega), if_pos (by simp only [Z9, hz]; omega)]
  simp only [Option.bind_some]
  rw [if_pos (by simp only [Z9, hz]; omega)]
  simp only [Option.bind_some, Z0l, List.append_assoc]
/-- what is shown of a list of statements at some blanks -/
structure SL (l : List St) (b : ByteArray) : Prop where
  ref : Ev (fun k => Zdd k l b) (bB (slT l b.data.toList))
  prog : ∀ u xs, xs.length + (slT l b.data.toList).length < 900000000 → ∃ u', Ev (fun k => Zbo k l u xs b) (u', xs ++ slT l b.data.toList, b)
  size : (slT l b.data.toList).length ≤ 400 * Z3e l + 24 * Zc6 l
/-- .. and of one -/
structure SG (s : St) (b : ByteArray) : Prop where
  ref : Ev (fun k => F_ref03_stmt k s b) (bB (stT s b.data.toList))
  prog : ∀ u xs, xs.length + (stT s b.data.toList).length < 900000000 → ∃ u', Ev (fun k => Z70 k u xs b s) (u', xs ++ stT s b.data.toList, b)
  size : (stT s b.data.toList).length ≤ 400 * s.nodes + 24 * s.labs
theorem sl_ref (xs : List St) (b : ByteArray) (hx : ∀ s ∈ xs, SG s b) (hlen : xs.length < 1000000) : ∀ (rest pre : List St), xs = pre ++ rest → ∀ acc : List UInt8, acc.length + (slT rest b.data.toList).length < 900000000000 →
    Ev (fun k => (Zo k).ref03_Stmts_l1 xs b (bB acc) (pre.length : Int)) (bB (acc ++ slT rest b.data.toList))
  | [], pre, h, acc, hacc => by
    refine Ev.succ (Ev.now fun k => ?_)
    show Z6p k _ xs b _ _ = _
    unfold Z6p
    rw [Z90 (by rw [h]; simp), slT, List.append_nil]; rfl
  | s :: rest, pre, h, acc, hacc => by
    have hl : xs.length = pre.length + 1 + rest.length := by rw [h]; simp; omega
    have hm : at? xs (pre.length : Int) = some s := by rw [h]; exact Z8y _ _ _
    rw [slT, List.length_append] at hacc
    obtain ⟨K1, h1⟩ := (hx s (by rw [h]; simp)).ref
    obtain ⟨K2, h2⟩ := sl_ref xs b hx hlen rest (pre ++ [s]) (by rw [h]; simp) (acc ++ stT s b.data.toList) (by rw [List.length_append]; omega)
    refine Ev.succ ⟨max K1 K2, fun k hk => ?_⟩
    have h1' : (Zo k).ref03_stmt s b = some (bB (stT s b.data.toList)) := h1 k (by omega)
    have h2' := h2 k (by omega)
    show Z6p k _ xs b _ _ = _
    unfold Z6p Zf0
    rw [Z6r (by omega), hm]
    simp only [cond_true, Option.bind_some, h1', bB_app]
    have e2 : (pre ++ [s]).length = pre.length + 1 := by simp
    rw [if_pos (by simp only [Z01]; omega), Z27 (by omega), ← e2, slT, ← List.append_assoc]
    exact h2'
theorem sl_prog (xs : List St) (b : ByteArray) (hx : ∀ s ∈ xs, SG s b) (hlen : xs.length < 1000000) (ys : List St) : ∀ (rest pre : List St), xs = pre ++ rest → ∀ (u : Bool) (acc : List UInt8), acc.length + (slT rest b.data.toList).length < 900000000 →
    ∃ u', Ev (fun k => (Z3 k).print_printer_text_1_l1 xs (pre.length : Int) ys u acc b) (u', acc ++ slT rest b.data.toList, b)
  | [], pre, h, u, acc, hacc => by
    refine ⟨u, Ev.succ (Ev.now fun k => ?_)⟩
    show Z2s k _ xs _ _ _ _ _ = _
    unfold Z2s
    rw [Z90 (by rw [h]; simp), slT, List.append_nil]; rfl
  | s :: rest, pre, h, u, acc, hacc => by
    have hl : xs.length = pre.length + 1 + rest.length := by rw [h]; simp; omega
    have hm : at? xs (pre.length : Int) = some s := by rw [h]; exact Z8y _ _ _
    rw [slT, List.length_append] at hacc
    obtain ⟨u1, K1, h1⟩ := (hx s (by rw [h]; simp)).prog u acc (by omega)
    obtain ⟨u2, K2, h2⟩ := sl_prog xs b hx hlen ys rest (pre ++ [s]) (by rw [h]; simp) u1 (acc ++ stT s b.data.toList) (by rw [List.length_append]; omega)
    refine ⟨u2, Ev.succ ⟨max K1 K2, fun k hk => ?_⟩⟩
    have h1' : (Z3 k).print_printer_stmt u acc b s = some (u1, acc ++ stT s b.data.toList, b) := h1 k (by omega)
    have h2' := h2 k (by omega)
    show Z2s k _ xs _ _ _ _ _ = _
    unfold Z2s Z7i
    rw [Z6r (by omega), hm]
    simp only [cond_true, Option.bind_some, St.eta, h1']
    have e2 : (pre ++ [s]).length = pre.length + 1 := by simp
    rw [Z27 (by omega), ← e2, slT, ← List.append_assoc]
    exact h2'
theorem slT_size {b : ByteArray} : ∀ {l : List St}, (∀ s ∈ l, SG s b) → (slT l b.data.toList).length ≤ 400 * Z3e l + 24 * Zc6 l
  | [], _ => by rw [slT]; exact Nat.zero_le _
  | s :: l, h => by
    have h1 := (h s (by simp)).size
    have h2 := slT_size (l := l) (fun x hx => h x (by simp [hx]))
    rw [slT, Z3e, Zc6, List.length_append]; omega
theorem sl_of {l : List St} {b : ByteArray} (hx : ∀ s ∈ l, SG s b) (hN : 400 * Z3e l + 24 * Zc6 l < 100000000) (hlen : l.length < 1000000) : SL l b := by
  have hz := slT_size hx
  refine ⟨Ev.succ (sl_ref l b hx hlen l [] rfl [] (by simp; omega)), fun u xs h => ?_, hz⟩
  obtain ⟨u', h'⟩ := sl_prog l b hx hlen l l [] rfl u xs h
  exact ⟨u', Ev.succ h'⟩
theorem Zep {l : List St} {b : ByteArray} (h : SL l (b ++ ⟨#[32, 32]⟩)) (hb : b.size < 1000) (u : Bool) (xs : List UInt8) (hs : xs.length + (slT l (b.data.toList ++ [32, 32])).length < 900000000) :
    ∃ u', Ev (fun k => Zcw k u xs b l) (u', xs ++ slT l (b.data.toList ++ [32, 32]), b) := by
  have e : (b ++ ⟨#[32, 32]⟩).data.toList = b.data.toList ++ [32, 32] := by rw [Z0l]
  rw [← e] at hs ⊢
  obtain ⟨u', K, h'⟩ := h.prog u xs hs
  have g1 : Ev (fun k => Zar k u xs b l) (u', xs ++ slT l (b ++ ⟨#[32, 32]⟩).data.toList, b) := by
    refine Ev.succ ⟨K, fun k hk => ?_⟩
    have h2 : (Z3 k).print_printer_text_1 l u xs (b ++ ⟨#[32, 32]⟩) = some (u', xs ++ slT l (b ++ ⟨#[32, 32]⟩).data.toList, b ++ ⟨#[32, 32]⟩) := h' k hk
    show Z44 k _ u xs b l = _
    unfold Z44
    rw [if_pos (by simp only [bsz, List.size_toArray, List.length_cons, List.length_nil]; omega), h2]; rfl
  obtain ⟨K2, g1⟩ := g1
  refine ⟨u', Ev.succ ⟨K2, fun k hk => ?_⟩⟩
  have g2 : (Z3 k).print_lines_inside_v1 u xs b l = some (u', xs ++ slT l (b ++ ⟨#[32, 32]⟩).data.toList, b) := g1 k hk
  show Z5e k _ u xs b l = _
  unfold Z5e
  rw [g2]; rfl
def otB (s : St) (i : List UInt8) (t : List UInt8) : List UInt8 := bif s.els then i ++ ([101, 108, 115, 101, 10] ++ t) else []
theorem other_prog {s : St} {b : ByteArray} (h : SL s.other (b ++ ⟨#[32, 32]⟩)) (hb : b.size < 1000) (u : Bool) (xs : List UInt8) (hs : xs.length + (otB s b.data.toList (slT s.other (b.data.toList ++ [32, 32]))).length < 900000000) :
    ∃ u', Ev (fun k => Zc2 k u xs b s) (u', xs ++ otB s b.data.toList (slT s.other (b.data.toList ++ [32, 32])), b) := by
  unfold otB at hs ⊢
  cases he : s.els with
  | false =>
    refine ⟨u, Ev.succ (Ev.now fun k => ?_)⟩
    show Z34 k _ u xs b s = _
    unfold Z34
    rw [he]; simp
  | true =>
    rw [he] at hs
    simp only [cond_true, List.length_append, List.length_cons, List.length_nil] at hs
    have hbl := Z20 b
    obtain ⟨u', K, h'⟩ := Zep h hb true (xs ++ (b.data.toList ++ ([101, 108, 115, 101] ++ [10]))) (by simp only [List.length_append, List.length_cons, List.length_nil]; omega)
    refine ⟨u', Ev.succ ⟨K, fun k hk => ?_⟩⟩
    have h2 : (Z3 k).print_printer_text true (xs ++ (b.data.toList ++ ([101, 108, 115, 101] ++ [10]))) b s.other = _ := h' k hk
    show Z34 k _ u xs b s = _
    unfold Z34
    rw [he, Z55 k (by simp only [bsz, List.size_toArray, List.length_cons, List.length_nil]; omega)]
    simp only [cond_true, Option.bind_some]
    rw [h2]
    simp
theorem other_ref {s : St} {b : ByteArray} (h : SL s.other (b ++ ⟨#[32, 32]⟩)) (hb : b.size < 1000) (hs : (slT s.other (b.data.toList ++ [32, 32])).length < 900000000) :
    Ev (fun k => F_ref03_other k s b) (bB (otB s b.data.toList (slT s.other (b.data.toList ++ [32, 32])))) := by
  have e : (b ++ ⟨#[32, 32]⟩).data.toList = b.data.toList ++ [32, 32] := by rw [Z0l]
  obtain ⟨K, h1⟩ := h.ref
  rw [e] at h1
  refine Ev.succ ⟨K, fun k hk => ?_⟩
  have h1' : (Zo k).ref03_Stmts s.other (b ++ ⟨#[32, 32]⟩) = _ := h1 k hk
  show Zbw k _ s b = _
  unfold Zbw Ze7 otB
  cases he : s.els with
  | false => rfl
  | true =>
    simp only [Bool.not_true, cond_false, cond_true]
    rw [if_pos (by simp only [bsz, List.size_toArray, List.length_cons, List.length_nil]; omega), if_pos (by simp only [bsz, List.size_toArray, List.length_cons, List.length_nil]; omega), h1']
    simp only [Option.bind_some]
    rw [if_pos (by simp only [Z9, Z01, bsz, List.size_toArray, List.length_cons, List.length_nil]; omega)]
    congr 1
    apply Z9u
    simp [Z0l, bB]
end Go.Proofs.YtaknpdhmhifpeaaGreatDoor
