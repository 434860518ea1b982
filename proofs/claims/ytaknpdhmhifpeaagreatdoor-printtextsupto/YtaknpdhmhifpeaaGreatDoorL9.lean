import Derived.Test.YtaknpdhmhifpeaaGreatDoorL3e
import Derived.Test.YtaknpdhmhifpeaaGreatDoorL4
import Derived.Test.YtaknpdhmhifpeaaGreatDoorL3c
set_option linter.unusedVariables false
set_option linter.unusedSimpArgs false
namespace Go.Proofs.YtaknpdhmhifpeaaGreatDoor
open Go

/-! ### 65. Inputs with names, labels -/
noncomputable def fT : List ByteArray → List Ex → List ByteArray
  | f :: fs, a :: es => ((f ++ ⟨#[32, 58, 61, 32]⟩) ++ txt a) :: fT fs es
  | _, _ => []
theorem fT_app : ∀ (fs : List ByteArray) (es : List Ex) (f : ByteArray) (a : Ex), fs.length = es.length → fT (fs ++ [f]) (es ++ [a]) = fT fs es ++ [(f ++ ⟨#[32, 58, 61, 32]⟩) ++ txt a]
  | [], [], _, _, _ => rfl
  | x :: fs, y :: es, f, a, h => by simp only [List.cons_append, fT]; rw [fT_app fs es f a (by simpa using h)]
theorem fT_len : ∀ (fs : List ByteArray) (es : List Ex), fs.length = es.length → (fT fs es).length = fs.length
  | [], [], _ => rfl
  | x :: fs, y :: es, h => by simp only [fT, List.length_cons]; rw [fT_len fs es (by simpa using h)]
theorem join_some (ts : List ByteArray) (h1 : ts.length < 100000000) (h2 : Zfd ts < 100000000) (k : Nat) : Z4h k ts ⟨#[44, 32]⟩ = some (Zcx ts) := by
  unfold Z4h
  have h3 := Zco ts
  rw [Z20] at h3
  have e : (⟨#[44, 32]⟩ : ByteArray).data.toList = [44, 32] := rfl
  simp only [e]
  rw [if_pos ⟨by omega, by have h4 : (Zcx ts).data.toList = Go.Lib.join (ts.map (·.data.toList)) [44, 32] := rfl
                           rw [h4] at h3; omega⟩]
  rfl
theorem inputs_loop (fs : List ByteArray) (es : List Ex) (hl : fs.length = es.length) (hx : ∀ a ∈ es, Ev (fun k => Z1t k a) (txt a)) (hsz : Zfd (fT fs es) < 1000000) :
    ∀ (r2 : List Ex) (r1 p1 : List ByteArray) (p2 : List Ex), fs = p1 ++ r1 → es = p2 ++ r2 → r1.length = r2.length → (∀ f ∈ fs, f.size < 1000000) → (∀ a ∈ es, (txt a).size < 1000000) → fs.length < 1000000 →
    Ev (fun k => (Z23 k).print_Inputs_l1 fs es (fT p1 p2) (p1.length : Int)) (Zcx (fT fs es))
  | [], r1, p1, p2, h1, h2, hr, hf, ha, hn => by
    have hr0 : r1 = [] := List.length_eq_zero_iff.1 hr
    subst hr0
    rw [List.append_nil] at h1 h2
    subst h1; subst h2
    refine Ev.succ (Ev.now fun k => ?_)
    show Z5s k _ fs es _ _ = _
    unfold Z5s
    have := Ze8 (fT fs es)
    rw [Z90 (by omega)]
    simp only [cond_false]
    rw [join_some _ (by omega) (by omega)]; rfl
  | a :: r2, r1, p1, p2, h1, h2, hr, hf, ha, hn => by
    obtain ⟨f, r1', rfl⟩ : ∃ f r1', r1 = f :: r1' := by cases r1 with
      | nil => simp at hr
      | cons f r => exact ⟨f, r, rfl⟩
    have hll : fs.length = p1.length + 1 + r1'.length := by rw [h1]; simp; omega
    have hla : es.length = p2.length + 1 + r2.length := by rw [h2]; simp; omega
    have hp : p1.length = p2.length := by simp at hr; omega
    have hm : at? fs (p1.length : Int) = some f := by rw [h1]; exact Z8y _ _ _
    have hm2 : at? es (p1.length : Int) = some a := by rw [h2, hp]; exact Z8y _ _ _
    have hfs := hf f (by rw [h1]; simp)
    have has := ha a (by rw [h2]; simp)
    obtain ⟨K1, q1⟩ := hx a (by rw [h2]; simp)
    obtain ⟨K2, q2⟩ := inputs_loop fs es hl hx hsz r2 r1' (p1 ++ [f]) (p2 ++ [a]) (by rw [h1]; simp) (by rw [h2]; simp) (by simpa using hr) hf ha hn
    refine Ev.succ ⟨max K1 K2, fun k hk => ?_⟩
    have q1' : Z1t k a = some (txt a) := q1 k (by omega)
    have q2' : (Z23 k).print_Inputs_l1 fs es (fT (p1 ++ [f]) (p2 ++ [a])) ((p1 ++ [f]).length : Int) = some (Zcx (fT fs es)) := q2 k (by omega)
    have e2 : (p1 ++ [f]).length = p1.length + 1 := by simp
    rw [fT_app _ _ _ _ hp, e2] at q2'
    have hfl := fT_len p1 p2 hp
    show Z5s k _ fs es _ _ = _
    unfold Z5s Zdk
    rw [Z6r (by omega), hm]
    simp only [cond_true, Option.bind_some]
    rw [if_pos (by simp only [bsz, List.size_toArray, List.length_cons, List.length_nil]; omega), hm2]
    simp only [Option.bind_some, q1']
    rw [if_pos (by simp only [Z9, bsz, List.size_toArray, List.length_cons, List.length_nil]; omega), if_pos (by simp; omega), Z27 (by omega)]
    exact q2'
theorem inputs_prog {fs : List ByteArray} {es : List Ex} (hl : fs.length = es.length) (hx : ∀ a ∈ es, Ev (fun k => Z1t k a) (txt a)) (hsz : Zfd (fT fs es) < 1000000) (hf : ∀ f ∈ fs, f.size < 1000000) (ha : ∀ a ∈ es, (txt a).size < 1000000) (hn : fs.length < 1000000) :
    Ev (fun k => Zci k fs es) (Zcx (fT fs es)) := Ev.succ (inputs_loop fs es hl hx hsz es fs [] [] rfl rfl hl hf ha hn)
theorem fields_loop (fs : List ByteArray) (es : List Ex) (hn : es.length < 1000000) (hx : ∀ a ∈ es, Ev (fun k => Z3g k a) (txt a)) :
    ∀ (r2 : List Ex) (r1 p1 : List ByteArray) (p2 : List Ex), fs = p1 ++ r1 → es = p2 ++ r2 → p1.length = p2.length → r1.length = r2.length → p2 ≠ [] → ∀ acc : ByteArray, acc.size + Zfd (fT r1 r2) < 10000000 →
    Ev (fun k => (Z1j k).ref03_Fields_l1 fs es acc (p2.length : Int)) (acc ++ tailC (fT r1 r2))
  | [], r1, p1, p2, h1, h2, hp, hr, hne, acc, hacc => by
    have hr0 : r1 = [] := List.length_eq_zero_iff.1 hr
    subst hr0
    rw [List.append_nil] at h1 h2
    subst h1; subst h2
    refine Ev.succ (Ev.now fun k => ?_)
    show Z3z k _ fs es _ _ = _
    unfold Z3z
    rw [Z90 (by omega)]
    have : acc ++ tailC (fT ([] : List ByteArray) []) = acc := Zdv acc
    rw [this]; rfl
  | a :: r2, r1, p1, p2, h1, h2, hp, hr, hne, acc, hacc => by
    obtain ⟨f, r1', rfl⟩ : ∃ f r1', r1 = f :: r1' := by cases r1 with
      | nil => simp at hr
      | cons f r => exact ⟨f, r, rfl⟩
    have hla : es.length = p2.length + 1 + r2.length := by rw [h2]; simp; omega
    have hm : at? fs (p2.length : Int) = some f := by rw [h1, ← hp]; exact Z8y _ _ _
    have hm2 : at? es (p2.length : Int) = some a := by rw [h2]; exact Z8y _ _ _
    have hp0 : 0 < p2.length := List.length_pos_iff.2 hne
    rw [fT, Zfd] at hacc
    simp only [Z9, bsz, List.size_toArray, List.length_cons, List.length_nil] at hacc
    have hsl := Ze8 (fT r1' r2)
    have hfl := fT_len r1' r2 (by simpa using hr)
    obtain ⟨K1, q1⟩ := hx a (by rw [h2]; simp)
    obtain ⟨K2, q2⟩ := fields_loop fs es hn hx r2 r1' (p1 ++ [f]) (p2 ++ [a]) (by rw [h1]; simp) (by rw [h2]; simp) (by simp [hp]) (by simpa using hr) (by simp) ((((acc ++ ⟨#[44, 32]⟩) ++ f) ++ ⟨#[32, 58, 61, 32]⟩) ++ txt a) (by simp only [Z9, bsz, List.size_toArray, List.length_cons, List.length_nil]; omega)
    have e3 : ((((acc ++ ⟨#[44, 32]⟩) ++ f) ++ ⟨#[32, 58, 61, 32]⟩) ++ txt a) ++ tailC (fT r1' r2) = acc ++ tailC (fT (f :: r1') (a :: r2)) := by
      rw [fT, tailC_cons]; apply Z9u; simp [Z0l]
    refine Ev.val ?_ e3
    refine Ev.succ ⟨max K1 K2, fun k hk => ?_⟩
    have q1' : Z3g k a = some (txt a) := q1 k (by omega)
    have q2' := q2 k (by omega)
    have e2 : (p2 ++ [a]).length = p2.length + 1 := by simp
    show Z3z k _ fs es _ _ = _
    unfold Z3z Zbe Z91 Zbm
    rw [Z6r (by omega), Z6r (by omega), hm]
    simp only [cond_true, Option.bind_some]
    rw [if_pos (by simp only [Z9, bsz, List.size_toArray, List.length_cons, List.length_nil]; omega), if_pos (by simp only [Z9, bsz, List.size_toArray, List.length_cons, List.length_nil]; omega), if_pos (by simp only [Z9, bsz, List.size_toArray, List.length_cons, List.length_nil]; omega), hm2]
    simp only [Option.bind_some, q1']
    rw [if_pos (by simp only [Z9, bsz, List.size_toArray, List.length_cons, List.length_nil]; omega), Z27 (by omega), ← e2]
    exact q2'
theorem fields_ref {fs : List ByteArray} {es : List Ex} (hl : fs.length = es.length) (hn : es.length < 1000000) (hx : ∀ a ∈ es, Ev (fun k => Z3g k a) (txt a)) (hsz : Zfd (fT fs es) < 1000000) : Ev (fun k => Zai k fs es) (Zcx (fT fs es)) := by
  refine Ev.succ (f := fun k => Zai k fs es) ?_
  show Ev (fun k => (Z1j k).ref03_Fields_l1 fs es ⟨#[]⟩ 0) _
  match fs, es, hl, hn, hx, hsz with
  | [], [], _, _, _, _ => exact Ev.succ (Ev.now fun k => rfl)
  | f :: fs, a :: es, hl, hn, hx, hsz =>
    have hl' : fs.length = es.length := by simpa using hl
    rw [fT, Zfd] at hsz
    simp only [Z9, bsz, List.size_toArray, List.length_cons, List.length_nil] at hsz
    obtain ⟨K1, q1⟩ := hx a (by simp)
    obtain ⟨K2, q2⟩ := fields_loop (f :: fs) (a :: es) hn hx es fs [f] [a] rfl rfl rfl hl' (by simp) ((f ++ ⟨#[32, 58, 61, 32]⟩) ++ txt a) (by simp only [Z9, bsz, List.size_toArray, List.length_cons, List.length_nil]; omega)
    rw [fT, Zcy]
    refine Ev.succ ⟨max K1 K2, fun k hk => ?_⟩
    have q1' : Z3g k a = some (txt a) := q1 k (by omega)
    have q2' := q2 k (by omega)
    show Z3z k _ (f :: fs) (a :: es) _ _ = _
    unfold Z3z Zbe Z91 Zbm
    have hm : at? (f :: fs) 0 = some f := Z8y [] f fs
    have hm2 : at? (a :: es) 0 = some a := Z8y [] a es
    have d0 : decide ((0 : Int) < 0) = false := rfl
    rw [Z6r (by simp), hm]
    simp only [cond_true, cond_false, d0, Option.bind_some, ba_nil_app]
    rw [if_pos (by simp only [bsz, List.size_toArray, List.length_nil]; omega), if_pos (by simp only [Z9, bsz, List.size_toArray, List.length_cons, List.length_nil]; omega), hm2]
    simp only [Option.bind_some, q1']
    have w1 : IntKind.i64.wrap (0 + 1) = 1 := by decide
    rw [if_pos (by simp only [Z9, bsz, List.size_toArray, List.length_cons, List.length_nil]; omega), w1]
    exact q2'
/-! labels -/
theorem jint_loop (xs : List Int) (hx : ∀ n ∈ xs, -9223372036854775808 ≤ n ∧ n ≤ 9223372036854775807) (hlen : xs.length < 2000000) (hsz : Zfd (xs.map Zaq) < 100000000) : ∀ (rest pre : List Int), xs = pre ++ rest →
    Ev (fun k => (Z1c k).print_Joined_int_l1 xs ⟨#[44, 32]⟩ (pre.map Zaq) (pre.length : Int)) (Zcx (xs.map Zaq))
  | [], pre, h => by
    refine Ev.succ (Ev.now fun k => ?_)
    show Z3w k _ xs _ _ _ = _
    unfold Z3w
    have h' : xs = pre := by simpa using h
    subst h'
    rw [Z90 (by omega)]
    simp only [cond_false]
    rw [join_some _ (by rw [List.length_map]; omega) hsz]; rfl
  | x :: rest, pre, h => by
    have hl : xs.length = pre.length + 1 + rest.length := by rw [h]; simp; omega
    have hm : at? xs (pre.length : Int) = some x := by rw [h]; exact Z8y _ _ _
    obtain ⟨K, hn⟩ := jint_loop xs hx hlen hsz rest (pre ++ [x]) (by rw [h]; simp)
    refine Ev.succ ⟨K, fun k hk => ?_⟩
    have hn' := hn k hk
    have e2 : (pre ++ [x]).length = pre.length + 1 := by simp
    have hx' := hx x (by rw [h]; simp)
    simp only [List.map_append, List.map_cons, List.map_nil] at hn'
    show Z3w k _ xs _ _ _ = _
    unfold Z3w Za1
    rw [Z6r (by omega), hm]
    simp only [cond_true, Option.bind_some, itoa_ok k hx'.1 hx'.2]
    rw [if_pos (by simp; omega), Z27 (by omega), ← e2]
    exact hn'
theorem jint_prog {xs : List Int} (hx : ∀ n ∈ xs, -9223372036854775808 ≤ n ∧ n ≤ 9223372036854775807) (hlen : xs.length < 2000000) (hsz : Zfd (xs.map Zaq) < 100000000) : Ev (fun k => Z8q k xs ⟨#[44, 32]⟩) (Zcx (xs.map Zaq)) :=
  Ev.succ (jint_loop xs hx hlen hsz xs [] rfl)
theorem digits_ev {n : Int} (h0 : -9223372036854775808 ≤ n) (h1 : n ≤ 9223372036854775807) : Ev (fun k => Z3n k n) (Zaq n) := ⟨23, fun k hk => by
  have := digits_ok (k - 23) h0 h1
  rwa [show k - 23 + 23 = k by omega] at this⟩
theorem labels_loop (xs : List Int) (hx : ∀ n ∈ xs, -9223372036854775808 ≤ n ∧ n ≤ 9223372036854775807) (hlen : xs.length < 2000000) : ∀ (rest pre : List Int), xs = pre ++ rest → pre ≠ [] → ∀ acc : ByteArray, acc.size + Zfd (rest.map Zaq) < 200000000 →
    Ev (fun k => (Z1q k).ref03_labels_l1 xs acc (pre.length : Int)) (acc ++ tailC (rest.map Zaq))
  | [], pre, h, hpre, acc, hacc => by
    refine Ev.succ (Ev.now fun k => ?_)
    show Z3y k _ xs _ _ = _
    unfold Z3y
    have h' : xs = pre := by simpa using h
    subst h'
    rw [Z90 (by omega)]
    have : acc ++ tailC (([] : List Int).map Zaq) = acc := Zdv acc
    rw [this]; rfl
  | x :: rest, pre, h, hpre, acc, hacc => by
    have hl : xs.length = pre.length + 1 + rest.length := by rw [h]; simp; omega
    have hm : at? xs (pre.length : Int) = some x := by rw [h]; exact Z8y _ _ _
    rw [List.map_cons, Zfd] at hacc
    have hp0 : 0 < pre.length := List.length_pos_iff.2 hpre
    have hx' := hx x (by rw [h]; simp)
    obtain ⟨K1, hp⟩ := digits_ev hx'.1 hx'.2
    obtain ⟨K2, hn⟩ := labels_loop xs hx hlen rest (pre ++ [x]) (by rw [h]; simp) (by simp) ((acc ++ ⟨#[44, 32]⟩) ++ Zaq x) (by simp only [Z9, bsz, List.size_toArray, List.length_cons, List.length_nil]; omega)
    refine Ev.succ ⟨max K1 K2, fun k hk => ?_⟩
    have hp' : Z3n k x = some (Zaq x) := hp k (by omega)
    have hn' := hn k (by omega)
    show Z3y k _ xs _ _ = _
    unfold Z3y Zbi Z92 Zbj
    rw [Z6r (by omega), Z6r (by omega), hm]
    simp only [cond_true, Option.bind_some, hp']
    rw [if_pos (by simp only [Z9, bsz, List.size_toArray, List.length_cons, List.length_nil]; omega), if_pos (by simp only [Z9, bsz, List.size_toArray, List.length_cons, List.length_nil]; omega), Z27 (by omega)]
    have e2 : (pre ++ [x]).length = pre.length + 1 := by simp
    simp only [e2] at hn'
    rw [hn', List.map_cons, tailC_cons, ← ba_assoc, ← ba_assoc]
theorem labels_ref {xs : List Int} (hx : ∀ n ∈ xs, -9223372036854775808 ≤ n ∧ n ≤ 9223372036854775807) (hlen : xs.length < 2000000) (hsz : Zfd (xs.map Zaq) < 100000000) : Ev (fun k => Za9 k xs) (Zcx (xs.map Zaq)) := by
  refine Ev.succ (f := fun k => Za9 k xs) ?_
  show Ev (fun k => (Z1q k).ref03_labels_l1 xs ⟨#[]⟩ 0) _
  match xs, hx, hlen, hsz with
  | [], _, _, _ => exact Ev.succ (Ev.now fun k => rfl)
  | x :: rest, hx, hlen, hsz =>
    rw [List.map_cons, Zfd] at hsz
    have hx' := hx x (by simp)
    obtain ⟨K1, hp⟩ := digits_ev hx'.1 hx'.2
    obtain ⟨K2, hn⟩ := labels_loop (x :: rest) hx hlen rest [x] rfl (by simp) (Zaq x) (by omega)
    refine Ev.succ ⟨max K1 K2, fun k hk => ?_⟩
    have hp' : Z3n k x = some (Zaq x) := hp k (by omega)
    have hn' := hn k (by omega)
    show Z3y k _ (x :: rest) _ _ = _
    unfold Z3y Zbi Z92 Zbj
    have hm : at? (x :: rest) 0 = some x := Z8y [] x rest
    rw [Z6r (by simp), hm]
    have d0 : decide ((0 : Int) < 0) = false := rfl
    simp only [cond_true, cond_false, d0, Option.bind_some, hp', ba_nil_app]
    rw [if_pos (by simp only [bsz, List.size_toArray, List.length_nil]; omega)]
    have w1 : IntKind.i64.wrap (0 + 1) = 1 := by decide
    rw [w1, List.map_cons, Zcy]
    exact hn'
end Go.Proofs.YtaknpdhmhifpeaaGreatDoor
