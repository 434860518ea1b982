import Derived.Test.YtkodnhngllfemaaGreatDoorB4
set_option linter.unusedVariables false
set_option linter.unusedSimpArgs false
namespace Go.Proofs.YtkodnhngllfemaaGreatDoor
open Go
inductive Ex where
  | mk (op kind n : Int) (s f : ByteArray) (args : List Ex)
def Ex.op : Ex → Int | .mk x _ _ _ _ _ => x
def Ex.kind : Ex → Int | .mk _ x _ _ _ _ => x
def Ex.n : Ex → Int | .mk _ _ x _ _ _ => x
def Ex.s : Ex → ByteArray | .mk _ _ _ x _ _ => x
def Ex.f : Ex → ByteArray | .mk _ _ _ _ x _ => x
def Ex.args : Ex → List Ex | .mk _ _ _ _ _ x => x
mutual
inductive St where
  | mk (op : Int) (name : ByteArray) (index : List Ex) (fields : List ByteArray) (args : List Ex) (n : Int) (body : List St) (arms : List Ar) (other : List St) (els : Bool)
inductive Ar where
  | mk (cond : List Ex) (labels : List Int) (body : List St)
end
def St.op : St → Int | .mk x _ _ _ _ _ _ _ _ _ => x
def St.name : St → ByteArray | .mk _ x _ _ _ _ _ _ _ _ => x
def St.index : St → List Ex | .mk _ _ x _ _ _ _ _ _ _ => x
def St.fields : St → List ByteArray | .mk _ _ _ x _ _ _ _ _ _ => x
def St.args : St → List Ex | .mk _ _ _ _ x _ _ _ _ _ => x
def St.n : St → Int | .mk _ _ _ _ _ x _ _ _ _ => x
def St.body : St → List St | .mk _ _ _ _ _ _ x _ _ _ => x
def St.arms : St → List Ar | .mk _ _ _ _ _ _ _ x _ _ => x
def St.other : St → List St | .mk _ _ _ _ _ _ _ _ x _ => x
def St.els : St → Bool | .mk _ _ _ _ _ _ _ _ _ x => x
def Ar.cond : Ar → List Ex | .mk x _ _ => x
def Ar.labels : Ar → List Int | .mk _ x _ => x
def Ar.body : Ar → List St | .mk _ _ x => x
structure Tok where
  kind : Int
  text : ByteArray
  pos : Int
inductive ExR (h : Hp) : Ex → List Value → Prop where
  | mk (op kind n : Int) (s f : ByteArray) (args : List Ex) (A : Option Addr) (c : Nat) (hc : args.length ≤ c) (b o : Nat) (hA : args ≠ [] → A = some ⟨b, o, none⟩) (css : Nat → List Value)
    (h1 : ∀ (j : Nat) (x : Ex), args[j]? = some x → ExR h x (css j)) (h2 : ∀ (j i : Nat) (v : Value), j < args.length → (css j)[i]? = some v → h b (o + j * 6 + i) = some v) :
    ExR h (.mk op kind n s f args) [.int .i64 op, .int .i64 kind, .int .i64 n, .string s, .string f, .slice A args.length c]
theorem ExR.mono {h h' : Hp} (le : Hle h h') {x : Ex} {cs : List Value} (r : ExR h x cs) : ExR h' x cs := by
  induction r with
  | mk op kind n s f args A c hc b o hA css h1 h2 ih => exact .mk op kind n s f args A c hc b o hA css ih (fun j i v hj hv => le.1 _ _ _ (h2 j i v hj hv))
instance : Rp Ex := ⟨6, by decide, ExR, by rintro h x cs ⟨⟩; rfl, by rintro h x cs ⟨⟩ v hv; simp at hv; rcases hv with rfl | rfl | rfl | rfl | rfl | rfl <;> rfl, fun le r => ExR.mono le r⟩
theorem pick_cells {α : Type} {R : α → List Value → Prop} {h : Hp} {b o sz : Nat} {xs : List α} (hr : ∀ (j : Nat) (x : α), xs[j]? = some x → ∃ cs, R x cs ∧ ∀ i v, cs[i]? = some v → h b (o + j * sz + i) = some v) :
    ∃ css : Nat → List Value, (∀ (j : Nat) (x : α), xs[j]? = some x → R x (css j)) ∧ ∀ (j i : Nat) (v : Value), j < xs.length → (css j)[i]? = some v → h b (o + j * sz + i) = some v := by
  have : ∀ j : Nat, ∃ cs : List Value, ∀ x, xs[j]? = some x → R x cs ∧ ∀ i v, cs[i]? = some v → h b (o + j * sz + i) = some v := by
    intro j
    cases hx : xs[j]? with
    | none => exact ⟨[], fun x hx' => by cases hx'⟩
    | some x =>
      obtain ⟨cs, h1, h2⟩ := hr j x hx
      exact ⟨cs, fun y hy => by cases hy; exact ⟨h1, h2⟩⟩
  obtain ⟨css, hcss⟩ := Classical.axiomOfChoice this
  exact ⟨css, fun j x hx => (hcss j x hx).1, fun j i v hj hv => (hcss j _ (List.getElem?_eq_getElem hj)).2 i v hv⟩
theorem Z7n {h : Hp} {x : Ex} {cs : List Value} : Rp.R h x cs ↔ ∃ v, cs = [.int .i64 x.op, .int .i64 x.kind, .int .i64 x.n, .string x.s, .string x.f, v] ∧ RS h v x.args := by
  constructor
  · intro r
    cases (show ExR h x cs from r) with
    | mk op kind n s f args A c hc b o hA css h1 h2 =>
      exact ⟨_, rfl, A, c, rfl, hc, fun hne => ⟨b, o, hA hne, fun j x hx => ⟨css j, h1 j x hx, fun i v hv => h2 j i v (List.getElem?_eq_some_iff.1 hx).1 hv⟩⟩⟩
  · rintro ⟨v, rfl, A, c, rfl, hc, hr⟩
    obtain ⟨op, kind, n, s, f, args⟩ := x
    show ExR h _ _
    by_cases hne : args = []
    · subst hne
      exact .mk op kind n s f [] A c hc 0 0 (fun q => absurd rfl q) (fun _ => []) (fun j x hx => by simp at hx) (fun j i v hj => by simp at hj)
    · obtain ⟨b, o, rfl, hj⟩ := hr hne
      obtain ⟨css, h1, h2⟩ := pick_cells (R := Rp.R h) (sz := 6) hj
      exact .mk op kind n s f args _ c hc b o (fun _ => rfl) css h1 h2
mutual
inductive StR (h : Hp) : St → List Value → Prop where
  | mk (op : Int) (name : ByteArray) (index : List Ex) (fields : List ByteArray) (args : List Ex) (n : Int) (body : List St) (arms : List Ar) (other : List St) (els : Bool) (vi vf va : Value) (A1 A2 A3 : Option Addr) (c1 c2 c3 : Nat)
    (hvi : RS h vi index) (hvf : RS h vf fields) (hva : RS h va args)
    (hc1 : body.length ≤ c1) (b1 o1 : Nat) (hA1 : body ≠ [] → A1 = some ⟨b1, o1, none⟩) (css1 : Nat → List Value) (h1 : ∀ (j : Nat) (x : St), body[j]? = some x → StR h x (css1 j)) (k1 : ∀ (j i : Nat) (v : Value), j < body.length → (css1 j)[i]? = some v → h b1 (o1 + j * 10 + i) = some v)
    (hc2 : arms.length ≤ c2) (b2 o2 : Nat) (hA2 : arms ≠ [] → A2 = some ⟨b2, o2, none⟩) (css2 : Nat → List Value) (h2 : ∀ (j : Nat) (x : Ar), arms[j]? = some x → ArR h x (css2 j)) (k2 : ∀ (j i : Nat) (v : Value), j < arms.length → (css2 j)[i]? = some v → h b2 (o2 + j * 3 + i) = some v)
    (hc3 : other.length ≤ c3) (b3 o3 : Nat) (hA3 : other ≠ [] → A3 = some ⟨b3, o3, none⟩) (css3 : Nat → List Value) (h3 : ∀ (j : Nat) (x : St), other[j]? = some x → StR h x (css3 j)) (k3 : ∀ (j i : Nat) (v : Value), j < other.length → (css3 j)[i]? = some v → h b3 (o3 + j * 10 + i) = some v) :
    StR h (.mk op name index fields args n body arms other els) [.int .i64 op, .string name, vi, vf, va, .int .i64 n, .slice A1 body.length c1, .slice A2 arms.length c2, .slice A3 other.length c3, .bool els]
inductive ArR (h : Hp) : Ar → List Value → Prop where
  | mk (cond : List Ex) (labels : List Int) (body : List St) (vc vl : Value) (hvc : RS h vc cond) (hvl : RS h vl labels) (A1 : Option Addr) (c1 : Nat)
    (hc1 : body.length ≤ c1) (b1 o1 : Nat) (hA1 : body ≠ [] → A1 = some ⟨b1, o1, none⟩) (css1 : Nat → List Value) (h1 : ∀ (j : Nat) (x : St), body[j]? = some x → StR h x (css1 j)) (k1 : ∀ (j i : Nat) (v : Value), j < body.length → (css1 j)[i]? = some v → h b1 (o1 + j * 10 + i) = some v) :
    ArR h (.mk cond labels body) [vc, vl, .slice A1 body.length c1]
end
theorem StR.mono {h h' : Hp} (le : Hle h h') {x : St} {cs : List Value} (r : StR h x cs) : StR h' x cs :=
  StR.rec (motive_1 := fun x cs _ => StR h' x cs) (motive_2 := fun x cs _ => ArR h' x cs)
    (fun op name index fields args n body arms other els vi vf va A1 A2 A3 c1 c2 c3 hvi hvf hva hc1 b1 o1 hA1 css1 _ k1 hc2 b2 o2 hA2 css2 _ k2 hc3 b3 o3 hA3 css3 _ k3 i1 i2 i3 =>
      .mk op name index fields args n body arms other els vi vf va A1 A2 A3 c1 c2 c3 (hvi.mono le) (hvf.mono le) (hva.mono le) hc1 b1 o1 hA1 css1 i1 (fun j i v hj hv => le.1 _ _ _ (k1 j i v hj hv)) hc2 b2 o2 hA2 css2 i2 (fun j i v hj hv => le.1 _ _ _ (k2 j i v hj hv)) hc3 b3 o3 hA3 css3 i3 (fun j i v hj hv => le.1 _ _ _ (k3 j i v hj hv)))
    (fun cond labels body vc vl hvc hvl A1 c1 hc1 b1 o1 hA1 css1 _ k1 i1 => .mk cond labels body vc vl (hvc.mono le) (hvl.mono le) A1 c1 hc1 b1 o1 hA1 css1 i1 (fun j i v hj hv => le.1 _ _ _ (k1 j i v hj hv))) r
theorem ArR.mono {h h' : Hp} (le : Hle h h') {x : Ar} {cs : List Value} (r : ArR h x cs) : ArR h' x cs := by
  cases r with
  | mk cond labels body vc vl hvc hvl A1 c1 hc1 b1 o1 hA1 css1 h1 k1 =>
    exact .mk cond labels body vc vl (hvc.mono le) (hvl.mono le) A1 c1 hc1 b1 o1 hA1 css1 (fun j x hx => (h1 j x hx).mono le) (fun j i v hj hv => le.1 _ _ _ (k1 j i v hj hv))
instance : Rp St := ⟨10, by decide, StR, by rintro h x cs ⟨⟩; rfl, by
  intro h x cs r v hv
  cases r with
  | mk op name index fields args n body arms other els vi vf va A1 A2 A3 c1 c2 c3 hvi hvf hva =>
    simp at hv
    rcases hv with rfl | rfl | rfl | rfl | rfl | rfl | rfl | rfl | rfl | rfl
    all_goals first | rfl | exact hvi.one | exact hvf.one | exact hva.one, fun le r => StR.mono le r⟩
instance : Rp Ar := ⟨3, by decide, ArR, by rintro h x cs ⟨⟩; rfl, by
  intro h x cs r v hv
  cases r with
  | mk cond labels body vc vl hvc hvl A1 c1 =>
    simp at hv
    rcases hv with rfl | rfl | rfl
    all_goals first | rfl | exact hvc.one | exact hvl.one, fun le r => ArR.mono le r⟩
theorem rs_parts {α : Type} [Rp α] {h : Hp} {v : Value} {xs : List α} (r : RS h v xs) : ∃ A c b o, ∃ css : Nat → List Value, v = .slice A xs.length c ∧ xs.length ≤ c ∧ (xs ≠ [] → A = some ⟨b, o, none⟩) ∧
    (∀ (j : Nat) (x : α), xs[j]? = some x → Rp.R h x (css j)) ∧ ∀ (j i : Nat) (v : Value), j < xs.length → (css j)[i]? = some v → h b (o + j * Rp.sz α + i) = some v := by
  obtain ⟨A, c, rfl, hc, hr⟩ := r
  by_cases hne : xs = []
  · subst hne
    exact ⟨A, c, 0, 0, fun _ => [], rfl, hc, fun q => absurd rfl q, fun j x hx => by simp at hx, fun j i v hj => by simp at hj⟩
  · obtain ⟨b, o, rfl, hj⟩ := hr hne
    obtain ⟨css, h1, h2⟩ := pick_cells (R := Rp.R h) (sz := Rp.sz α) hj
    exact ⟨_, c, b, o, css, rfl, hc, fun _ => rfl, h1, h2⟩
theorem rs_of_parts {α : Type} [Rp α] {h : Hp} {A : Option Addr} {c b o sz : Nat} {xs : List α} (hsz : sz = Rp.sz α) (hc : xs.length ≤ c) (hA : xs ≠ [] → A = some ⟨b, o, none⟩) (css : Nat → List Value) (h1 : ∀ (j : Nat) (x : α), xs[j]? = some x → Rp.R h x (css j))
    (k1 : ∀ (j i : Nat) (v : Value), j < xs.length → (css j)[i]? = some v → h b (o + j * sz + i) = some v) : RS h (.slice A xs.length c) xs :=
  ⟨A, c, rfl, hc, fun hne => ⟨b, o, hA hne, fun j x hx => ⟨css j, h1 j x hx, fun i v hv => by subst hsz; exact k1 j i v (List.getElem?_eq_some_iff.1 hx).1 hv⟩⟩⟩
theorem Zgz {h : Hp} {x : St} {cs : List Value} : Rp.R h x cs ↔ ∃ vi vf va vb vr vo, cs = [.int .i64 x.op, .string x.name, vi, vf, va, .int .i64 x.n, vb, vr, vo, .bool x.els] ∧
    RS h vi x.index ∧ RS h vf x.fields ∧ RS h va x.args ∧ RS h vb x.body ∧ RS h vr x.arms ∧ RS h vo x.other := by
  constructor
  · intro r
    cases (show StR h x cs from r) with
    | mk op name index fields args n body arms other els vi vf va A1 A2 A3 c1 c2 c3 hvi hvf hva hc1 b1 o1 hA1 css1 h1 k1 hc2 b2 o2 hA2 css2 h2 k2 hc3 b3 o3 hA3 css3 h3 k3 =>
      exact ⟨_, _, _, _, _, _, rfl, hvi, hvf, hva, rs_of_parts (sz := 10) rfl hc1 hA1 css1 h1 k1, rs_of_parts (sz := 3) rfl hc2 hA2 css2 h2 k2, rs_of_parts (sz := 10) rfl hc3 hA3 css3 h3 k3⟩
  · rintro ⟨vi, vf, va, vb, vr, vo, rfl, hi, hf, ha, hb, hr, ho⟩
    obtain ⟨op, name, index, fields, args, n, body, arms, other, els⟩ := x
    obtain ⟨A1, c1, b1, o1, css1, rfl, hc1, hA1, h1, k1⟩ := rs_parts hb
    obtain ⟨A2, c2, b2, o2, css2, rfl, hc2, hA2, h2, k2⟩ := rs_parts hr
    obtain ⟨A3, c3, b3, o3, css3, rfl, hc3, hA3, h3, k3⟩ := rs_parts ho
    exact StR.mk op name index fields args n body arms other els vi vf va A1 A2 A3 c1 c2 c3 hi hf ha hc1 b1 o1 hA1 css1 h1 k1 hc2 b2 o2 hA2 css2 h2 k2 hc3 b3 o3 hA3 css3 h3 k3
theorem rp_Ar {h : Hp} {x : Ar} {cs : List Value} : Rp.R h x cs ↔ ∃ vc vl vb, cs = [vc, vl, vb] ∧ RS h vc x.cond ∧ RS h vl x.labels ∧ RS h vb x.body := by
  constructor
  · intro r
    cases (show ArR h x cs from r) with
    | mk cond labels body vc vl hvc hvl A1 c1 hc1 b1 o1 hA1 css1 h1 k1 => exact ⟨_, _, _, rfl, hvc, hvl, rs_of_parts (sz := 10) rfl hc1 hA1 css1 h1 k1⟩
  · rintro ⟨vc, vl, vb, rfl, hc, hl, hb⟩
    obtain ⟨cond, labels, body⟩ := x
    obtain ⟨A1, c1, b1, o1, css1, rfl, hc1, hA1, h1, k1⟩ := rs_parts hb
    exact ArR.mk cond labels body vc vl hc hl A1 c1 hc1 b1 o1 hA1 css1 h1 k1
instance : Rp Tok := ⟨3, by decide, fun _ x cs => cs = [.int .i64 x.kind, .string x.text, .int .i64 x.pos], by rintro h x cs rfl; rfl, by rintro h x cs rfl v hv; simp at hv; rcases hv with rfl | rfl | rfl <;> rfl, fun _ h => h⟩
theorem Z62 {h : Hp} {x : Tok} {cs : List Value} : Rp.R h x cs ↔ cs = [.int .i64 x.kind, .string x.text, .int .i64 x.pos] := Iff.rfl
end Go.Proofs.YtkodnhngllfemaaGreatDoor
