import Derived.Test.YtkodnhngllfemaaGreatDoorB2
import GoSem.Instr.Lookup
set_option linter.unusedVariables false
set_option linter.unusedSimpArgs false
namespace Go.Proofs.YtkodnhngllfemaaGreatDoor
open Go
structure Hp where
  c : Nat → Nat → Option Value
  base : Nat
  low : Nat → Option Obj
  mp : Nat → Option (Array MapEntry) := fun _ => none
instance : CoeFun Hp (fun _ => Nat → Nat → Option Value) := ⟨Hp.c⟩
def Hle (h h' : Hp) : Prop := (∀ b o v, h b o = some v → h' b o = some v) ∧ ∀ b es, h.mp b = some es → h'.mp b = some es
theorem Hle.refl (h : Hp) : Hle h h := ⟨fun _ _ _ x => x, fun _ _ x => x⟩
theorem Hle.trans {a b c : Hp} (h : Hle a b) (k : Hle b c) : Hle a c := ⟨fun x o v e => k.1 x o v (h.1 x o v e), fun x v e => k.2 x v (h.2 x v e)⟩
theorem Hle.of {h h' : Hp} (a : ∀ b o v, h b o = some v → h' b o = some v) (e : h'.mp = h.mp) : Hle h h' := ⟨a, fun b es x => by rw [e]; exact x⟩
class Rp (α : Type) where
  sz : Nat
  pos : 0 < sz
  R : Hp → α → List Value → Prop
  len : ∀ {h x cs}, R h x cs → cs.length = sz
  one : ∀ {h x cs}, R h x cs → ∀ v ∈ cs, v.oneCell' = true
  mono : ∀ {h h' x cs}, Hle h h' → R h x cs → R h' x cs
instance : Rp Int := ⟨1, by decide, fun _ x cs => cs = [.int .i64 x], by rintro h x cs rfl; rfl, by rintro h x cs rfl v hv; simp at hv; subst hv; rfl, fun _ h => h⟩
instance : Rp Bool := ⟨1, by decide, fun _ x cs => cs = [.bool x], by rintro h x cs rfl; rfl, by rintro h x cs rfl v hv; simp at hv; subst hv; rfl, fun _ h => h⟩
instance : Rp ByteArray := ⟨1, by decide, fun _ x cs => cs = [.string x], by rintro h x cs rfl; rfl, by rintro h x cs rfl v hv; simp at hv; subst hv; rfl, fun _ h => h⟩
def RA {α : Type} [Rp α] (h : Hp) (b o : Nat) (x : α) : Prop := ∃ cs, Rp.R h x cs ∧ ∀ i v, cs[i]? = some v → h b (o + i) = some v
theorem RA.mono {α : Type} [Rp α] {h h' : Hp} {b o : Nat} {x : α} (le : Hle h h') (r : RA h b o x) : RA h' b o x :=
  let ⟨cs, r1, r2⟩ := r; ⟨cs, Rp.mono le r1, fun i v e => le.1 _ _ _ (r2 i v e)⟩
def RS {α : Type} [Rp α] (h : Hp) (v : Value) (xs : List α) : Prop :=
  ∃ A c, v = .slice A xs.length c ∧ xs.length ≤ c ∧ (xs ≠ [] → ∃ b o, A = some ⟨b, o, none⟩ ∧ ∀ j x, xs[j]? = some x → RA h b (o + j * Rp.sz α) x)
theorem RS.mono {α : Type} [Rp α] {h h' : Hp} {v : Value} {xs : List α} (le : Hle h h') (r : RS h v xs) : RS h' v xs := by
  obtain ⟨A, c, e, hc, hr⟩ := r
  refine ⟨A, c, e, hc, fun hne => ?_⟩
  obtain ⟨b, o, e2, hj⟩ := hr hne
  exact ⟨b, o, e2, fun j x hx => (hj j x hx).mono le⟩
theorem RS.nil {α : Type} [Rp α] (h : Hp) : RS h (.slice none 0 0) ([] : List α) := ⟨none, 0, rfl, Nat.le_refl _, fun hn => absurd rfl hn⟩
theorem RS.one {α : Type} [Rp α] {h : Hp} {v : Value} {xs : List α} (r : RS h v xs) : v.oneCell' = true := by
  obtain ⟨A, c, rfl, _⟩ := r; rfl
instance {α : Type} [Rp α] : Rp (List α) := ⟨1, by decide, fun h x cs => ∃ v, cs = [v] ∧ RS h v x, by rintro h x cs ⟨v, rfl, _⟩; rfl, by rintro h x cs ⟨v, rfl, r⟩ u hu; simp at hu; subst hu; exact r.one,
  fun le ⟨v, e, r⟩ => ⟨v, e, r.mono le⟩⟩
theorem RS.form {α : Type} [Rp α] {h : Hp} {v : Value} {xs : List α} (r : RS h v xs) : ∃ A c, v = .slice A xs.length c ∧ RS h (.slice A xs.length c) xs := by
  obtain ⟨A, c, rfl, k⟩ := r; exact ⟨A, c, rfl, A, c, rfl, k⟩
theorem RS.at_ {α : Type} [Rp α] {h : Hp} {A : Option Addr} {m c : Nat} {xs : List α} (r : RS h (.slice A m c) xs) {i : Int} (h0 : 0 ≤ i) (h1 : i < xs.length) :
    ∃ b o, A = some ⟨b, o, none⟩ ∧ m = xs.length ∧ RA h b (o + i.toNat * Rp.sz α) (xs[i.toNat]'(by omega)) := by
  obtain ⟨A', c', e, hc, hr⟩ := r
  cases e
  obtain ⟨b, o, e2, hj⟩ := hr (by intro hx; subst hx; simp at h1; omega)
  exact ⟨b, o, e2, rfl, hj _ _ (List.getElem?_eq_getElem (by omega))⟩
theorem RS.lit {α : Type} [Rp α] {h : Hp} {b n : Nat} {cells : List Value} (xs : List α) (css : List (List Value)) (hn : xs.length = n) (hcell : ∀ o, h b o = cells[o]?) (hl : css.length = n) (hf : css.flatten = cells)
    (hr : ∀ (j : Nat) (x : α) (cs : List Value), xs[j]? = some x → css[j]? = some cs → Rp.R h x cs) : RS h (.slice (some ⟨b, 0, none⟩) n n) xs := by
  subst hn
  refine ⟨_, _, rfl, Nat.le_refl _, fun _ => ⟨b, 0, rfl, fun j x hx => ?_⟩⟩
  have hj : j < css.length := by rw [hl]; exact (List.getElem?_eq_some_iff.1 hx).1
  have hcs := List.getElem?_eq_getElem hj
  refine ⟨css[j], hr j x _ hx hcs, fun i v hv => ?_⟩
  rw [hcell, ← hf, Nat.zero_add]
  -- the i-th of the j-th part
  have key : ∀ (l : List (List Value)) (j : Nat), (∀ (k : Nat) (c : List Value), l[k]? = some c → c.length = Rp.sz α) → ∀ (c : List Value), l[j]? = some c → ∀ (i : Nat) (u : Value), c[i]? = some u → l.flatten[j * Rp.sz α + i]? = some u := by
    intro l
    induction l with
    | nil => intro j _ c hc; simp at hc
    | cons a l ih =>
      intro j hlen c hc i u hu
      have ha : a.length = Rp.sz α := hlen 0 a rfl
      cases j with
      | zero =>
        simp at hc
        subst hc
        have : i < a.length := (List.getElem?_eq_some_iff.1 hu).1
        rw [List.flatten_cons, Nat.zero_mul, Nat.zero_add, List.getElem?_append_left this]
        exact hu
      | succ j =>
        rw [List.flatten_cons, List.getElem?_append_right (by rw [ha, Nat.succ_mul]; omega)]
        have e : (j + 1) * Rp.sz α + i - a.length = j * Rp.sz α + i := by rw [ha, Nat.succ_mul]; omega
        rw [e]
        exact ih j (fun k c hk => hlen (k + 1) c (by simpa using hk)) c (by simpa using hc) i u hu
  refine key css j (fun k c hk => ?_) _ hcs i v hv
  have hk2 : k < xs.length := by rw [← hl]; exact (List.getElem?_eq_some_iff.1 hk).1
  exact Rp.len (hr k _ c (List.getElem?_eq_getElem hk2) hk)
theorem RS.cells {α : Type} [Rp α] {h : Hp} {b o : Nat} {xs : List α} (r : ∀ j x, xs[j]? = some x → RA h b (o + j * Rp.sz α) x) :
    ∃ l : List Value, l.length = xs.length * Rp.sz α ∧ (∀ q u, l[q]? = some u → h b (o + q) = some u ∧ u.oneCell' = true) ∧
      ∀ j x, xs[j]? = some x → ∃ cs, Rp.R h x cs ∧ ∀ i v, cs[i]? = some v → l[j * Rp.sz α + i]? = some v := by
  have hpos := Rp.pos (α := α)
  have some_at : ∀ q, q < xs.length * Rp.sz α → ∃ u, h b (o + q) = some u ∧ u.oneCell' = true := by
    intro q hq
    have hj : q / Rp.sz α < xs.length := Nat.div_lt_of_lt_mul (by rw [Nat.mul_comm]; exact hq)
    obtain ⟨cs, h1, h2⟩ := r (q / Rp.sz α) _ (List.getElem?_eq_getElem hj)
    have hi : q % Rp.sz α < cs.length := by rw [Rp.len h1]; exact Nat.mod_lt _ hpos
    have h3 := h2 _ _ (List.getElem?_eq_getElem hi)
    have e : o + q / Rp.sz α * Rp.sz α + q % Rp.sz α = o + q := by rw [Nat.add_assoc, Nat.div_add_mod']
    rw [e] at h3
    exact ⟨_, h3, Rp.one h1 _ (List.getElem_mem hi)⟩
  refine ⟨(List.range (xs.length * Rp.sz α)).map fun q => (h b (o + q)).getD undef, by simp, fun q u hq => ?_, fun j x hx => ?_⟩
  · have hlt : q < xs.length * Rp.sz α := by have := (List.getElem?_eq_some_iff.1 hq).1; simpa using this
    obtain ⟨v, hv, h1⟩ := some_at q hlt
    simp [List.getElem?_map, List.getElem?_range hlt, hv] at hq
    subst hq
    exact ⟨hv, h1⟩
  · obtain ⟨cs, h1, h2⟩ := r j x hx
    refine ⟨cs, h1, fun i v hv => ?_⟩
    have hj := (List.getElem?_eq_some_iff.1 hx).1
    have hi : i < Rp.sz α := by rw [← Rp.len h1]; exact (List.getElem?_eq_some_iff.1 hv).1
    have hlt : j * Rp.sz α + i < xs.length * Rp.sz α := by
      have : (j + 1) * Rp.sz α ≤ xs.length * Rp.sz α := Nat.mul_le_mul_right _ hj
      rw [Nat.succ_mul] at this
      omega
    have h3 := h2 i v hv
    rw [Nat.add_assoc] at h3
    simp [List.getElem?_map, List.getElem?_range hlt, h3]
instance : Rp UInt8 := ⟨1, by decide, fun _ x cs => cs = [.int .u8 x.toNat], by rintro h x cs rfl; rfl, by rintro h x cs rfl v hv; simp at hv; subst hv; rfl, fun _ h => h⟩
def tgetI {V : Type} : List (Int × V) → Int → Option V
  | [], _ => none
  | p :: T, k => bif k == p.1 then some p.2 else tgetI T k
def tgetS {V : Type} : List (ByteArray × V) → ByteArray → Option V
  | [], _ => none
  | p :: T, k => bif bEq k p.1 then some p.2 else tgetS T k
theorem bEq_iff {a b : ByteArray} : bEq a b = true ↔ a = b := by
  unfold bEq
  rw [beq_iff_eq]
  constructor
  · intro e
    apply ByteArray.ext
    apply Array.ext'
    exact e
  · intro e; rw [e]
theorem ba_beq {a b : ByteArray} : (a == b) = true ↔ a = b := by
  cases a with | mk x => cases b with | mk y =>
  show (x == y) = true ↔ _
  rw [beq_iff_eq]
  constructor
  · rintro rfl; rfl
  · intro e; cases e; rfl
theorem bEq_beq {a b : ByteArray} : bEq a b = (a == b) := by
  rw [Bool.eq_iff_iff, bEq_iff, ba_beq]
theorem findNow_int {V : Type} {evl : V → Value} {q : IntKind} {k : Int} : ∀ {es : List MapEntry} {T : List (Int × V)} {i : Nat}, es.map (fun e => (e.key, e.val)) = T.map (fun p => (Value.int q p.1, evl p.2)) →
    ∃ r, Instr.findNow (.int q) (.int q k) es i = some r ∧ r.map (·.2) = (tgetI T k).map evl
  | [], [], i, _ => ⟨none, rfl, rfl⟩
  | [], _ :: _, i, he => by simp at he
  | _ :: _, [], i, he => by simp at he
  | e :: es, p :: T, i, he => by
    simp only [List.map_cons, List.cons.injEq, Prod.mk.injEq] at he
    obtain ⟨⟨h1, h2⟩, h3⟩ := he
    obtain ⟨r, hr, hm⟩ := findNow_int (i := i + 1) (k := k) h3
    unfold Instr.findNow tgetI
    rw [h1]
    simp only [Instr.sameNow, if_true]
    cases hb : k == p.1 with
    | true => exact ⟨_, rfl, by simp [h2]⟩
    | false => exact ⟨r, hr, by simpa using hm⟩
theorem findNow_str {V : Type} {evl : V → Value} {k : ByteArray} : ∀ {es : List MapEntry} {T : List (ByteArray × V)} {i : Nat}, es.map (fun e => (e.key, e.val)) = T.map (fun p => (Value.string p.1, evl p.2)) →
    ∃ r, Instr.findNow .string (.string k) es i = some r ∧ r.map (·.2) = (tgetS T k).map evl
  | [], [], i, _ => ⟨none, rfl, rfl⟩
  | [], _ :: _, i, he => by simp at he
  | _ :: _, [], i, he => by simp at he
  | e :: es, p :: T, i, he => by
    simp only [List.map_cons, List.cons.injEq, Prod.mk.injEq] at he
    obtain ⟨⟨h1, h2⟩, h3⟩ := he
    obtain ⟨r, hr, hm⟩ := findNow_str (i := i + 1) (k := k) h3
    unfold Instr.findNow tgetS
    rw [h1]
    simp only [Instr.sameNow]
    rw [← bEq_beq]
    cases hb : bEq k p.1 with
    | true => exact ⟨_, rfl, by simp [h2]⟩
    | false => exact ⟨r, hr, by simpa using hm⟩
class KeyT (K : Type) where
  ek : K → Value
  kd : TypeDesc
  look : {V : Type} → List (K × V) → K → Option V
  find : ∀ {V : Type} {evl : V → Value} {es : List MapEntry} {T : List (K × V)} (k : K), es.map (fun e => (e.key, e.val)) = T.map (fun p => (ek p.1, evl p.2)) → ∃ r, Instr.findNow kd (ek k) es 0 = some r ∧ r.map (·.2) = (look T k).map evl
instance : KeyT Int := ⟨.int .i64, .int .i64, tgetI, fun k h => findNow_int h⟩
instance : KeyT ByteArray := ⟨.string, .string, tgetS, fun k h => findNow_str h⟩
def RM {K V : Type} [KeyT K] (evl : V → Value) (h : Hp) (v : Value) (T : List (K × V)) : Prop :=
  ∃ b es, v = .map (some b) ∧ h.mp b = some es ∧ ∀ k : K, ∃ r, Instr.findNow (KeyT.kd K) (KeyT.ek k) es.toList 0 = some r ∧ r.map (·.2) = (KeyT.look T k).map evl
theorem RM.mono {K V : Type} [KeyT K] {evl : V → Value} {h h' : Hp} {v : Value} {T : List (K × V)} (le : Hle h h') (r : RM evl h v T) : RM evl h' v T :=
  let ⟨b, es, e1, e2, e3⟩ := r; ⟨b, es, e1, le.2 _ _ e2, e3⟩
theorem findNow_mem {V : Type} {evl : V → Value} {T : List (Int × V)} (hf : ∀ p ∈ T, ∀ p' ∈ T, p.1 = p'.1 → p = p') (k : Int) : ∀ {es : List MapEntry} {i : Nat}, (∀ e ∈ es, ∃ p ∈ T, e.key = .int .i64 p.1 ∧ e.val = evl p.2) →
    ((∀ p ∈ T, p.1 ≠ k) ∨ (∀ e ∈ es, e.key ≠ .int .i64 k) ∨ ∃ e ∈ es, e.key = .int .i64 k) →
    ∃ r, Instr.findNow (.int .i64) (.int .i64 k) es i = some r ∧ ((r = none ∧ ∀ e ∈ es, e.key ≠ .int .i64 k) ∨ ∃ p ∈ T, p.1 = k ∧ r.map (·.2) = some (evl p.2))
  | [], i, _, _ => ⟨none, rfl, .inl ⟨rfl, by simp⟩⟩
  | e :: es, i, h, _ => by
    obtain ⟨p, hp, h1, h2⟩ := h e List.mem_cons_self
    obtain ⟨r, hr, hc⟩ := findNow_mem hf k (i := i + 1) (es := es) (fun e he => h e (List.mem_cons_of_mem _ he)) (by
      by_cases q : ∃ e ∈ es, e.key = .int .i64 k
      · exact .inr (.inr q)
      · exact .inr (.inl fun e he hk => q ⟨e, he, hk⟩))
    unfold Instr.findNow
    rw [h1]
    simp only [Instr.sameNow, if_true]
    cases hb : k == p.1 with
    | true => exact ⟨_, rfl, .inr ⟨p, hp, (by simpa using hb : k = p.1).symm, by rw [Option.map_some, h2]⟩⟩
    | false =>
      refine ⟨r, hr, ?_⟩
      rcases hc with ⟨q1, q2⟩ | q
      · refine .inl ⟨q1, fun e' he' => ?_⟩
        rcases List.mem_cons.1 he' with rfl | he'
        · rw [h1]; intro hk; injection hk with _ hk; subst hk; simp at hb
        · exact q2 e' he'
      · exact .inr q
theorem tgetI_mem {V : Type} : ∀ {T : List (Int × V)} (hf : ∀ p ∈ T, ∀ p' ∈ T, p.1 = p'.1 → p = p') {p : Int × V}, p ∈ T → tgetI T p.1 = some p.2
  | [], _, p, hp => by simp at hp
  | q :: T, hf, p, hp => by
    unfold tgetI
    by_cases e : p.1 = q.1
    · have := hf p hp q List.mem_cons_self e
      subst this; simp
    · have hb : (p.1 == q.1) = false := by rw [← Bool.not_eq_true]; simpa using e
      rw [hb]
      rcases List.mem_cons.1 hp with rfl | hp
      · exact absurd rfl e
      · exact tgetI_mem (fun a ha b hb => hf a (List.mem_cons_of_mem _ ha) b (List.mem_cons_of_mem _ hb)) hp
theorem tgetI_none {V : Type} : ∀ {T : List (Int × V)} {k : Int}, (∀ p ∈ T, p.1 ≠ k) → tgetI T k = none
  | [], k, _ => rfl
  | q :: T, k, h => by
    unfold tgetI
    have hb : (k == q.1) = false := by rw [← Bool.not_eq_true]; intro e; exact h q List.mem_cons_self (by simpa using e : k = q.1).symm
    rw [hb]
    exact tgetI_none fun p hp => h p (List.mem_cons_of_mem _ hp)
theorem findNow_perm {V : Type} {evl : V → Value} {T : List (Int × V)} {es : List MapEntry} (hf : ∀ p ∈ T, ∀ p' ∈ T, p.1 = p'.1 → p = p') (h : ∀ e ∈ es, ∃ p ∈ T, e.key = .int .i64 p.1 ∧ e.val = evl p.2) (hall : ∀ p ∈ T, ∃ e ∈ es, e.key = .int .i64 p.1) (k : Int) :
    ∃ r, Instr.findNow (.int .i64) (.int .i64 k) es 0 = some r ∧ r.map (·.2) = (tgetI T k).map evl := by
  obtain ⟨r, hr, hc⟩ := findNow_mem hf k (i := 0) h (by
      by_cases q : ∃ e ∈ es, e.key = .int .i64 k
      · exact .inr (.inr q)
      · exact .inr (.inl fun e he hk => q ⟨e, he, hk⟩))
  refine ⟨r, hr, ?_⟩
  rcases hc with ⟨rfl, hno⟩ | ⟨p, hp, rfl, hv⟩
  · rw [tgetI_none fun p hp hk => by
      obtain ⟨e, he, hek⟩ := hall p hp
      exact hno e he (by rw [hek, hk])]
    rfl
  · rw [hv, tgetI_mem hf hp]; rfl
end Go.Proofs.YtkodnhngllfemaaGreatDoor
