import Derived.Test.YtkodnhngllfemaaGreatDoorB3
set_option linter.unusedVariables false
set_option linter.unusedSimpArgs false
namespace Go.Proofs.YtkodnhngllfemaaGreatDoor
open Go
def Own (w : World) (h : Hp) (base e sz : Nat) (v : Value) (n : Nat) : Prop :=
  (v = .slice none 0 0 ∧ n = 0) ∨ ∃ g cap cur, v = .slice (some ⟨g, 0, none⟩) n cap ∧ base ≤ g ∧ w.heap[g]? = some (.cells cur e (0, 0)) ∧ n ≤ cap ∧ (cap ≤ maxLen ∧ 0 < n) ∧ cur.size = cap * sz ∧ ∀ o, n * sz ≤ o → h g o = none
theorem Own.nil (w : World) (h : Hp) (base e sz : Nat) : Own w h base e sz (.slice none 0 0) 0 := .inl ⟨rfl, rfl⟩
theorem Own.step {M : List Nat} {w w' : World} {h h' : Hp} {base e sz n : Nat} {v : Value} (own : Own w h base e sz v n) (s : Stp M w h w' h') (hm : ∀ b ∈ M, v.ownBlock ≠ some b) : Own w' h' base e sz v n := by
  rcases own with h1 | ⟨g, cap, cur, rfl, hb, hg, hn, hc, hcs, hf⟩
  · exact .inl h1
  · have hlt : g < w.heap.size := (Array.getElem?_eq_some_iff.1 hg).1
    have hnm : g ∉ M := fun hc => hm g hc rfl
    exact .inr ⟨g, cap, cur, rfl, hb, (s.block g hlt hnm).trans hg, hn, hc, hcs, fun o ho => (s.new g o hlt hnm).trans (hf o ho)⟩
theorem Own.step0 {w w' : World} {h h' : Hp} {base e sz n : Nat} {v : Value} (own : Own w h base e sz v n) (s : Stp [] w h w' h') : Own w' h' base e sz v n := own.step s (by simp)
theorem Own.base_le {w : World} {h : Hp} {base e sz n : Nat} {v : Value} (own : Own w h base e sz v n) : ∀ b ∈ v.ownBlock.toList, base ≤ b := by
  rcases own with ⟨rfl, _⟩ | ⟨g, cap, cur, rfl, hb, _⟩
  · simp [Value.ownBlock]
  · simpa [Value.ownBlock] using hb
theorem Own.ne {w : World} {h : Hp} {base e sz n c T : Nat} {v : Value} {ds : List Value} (own : Own w h base e sz v n) (ob : OB w h c T ds) (hne : e ≠ T) : ∀ b ∈ v.ownBlock.toList, c ≠ b := by
  rcases own with ⟨rfl, _⟩ | ⟨g, cap, cur, rfl, hb, hg, _⟩
  · simp [Value.ownBlock]
  · intro b hb2
    simp [Value.ownBlock] at hb2
    subst hb2
    rintro rfl
    have := hg.symm.trans ob.heap
    simp only [Option.some.injEq, Obj.cells.injEq] at this
    exact hne this.2.1
def hput (h : Hp) (g k : Nat) (news : List Value) : Hp := { h with c := fun b o => if b = g ∧ k ≤ o ∧ o < k + news.length then news[o - k]? else h b o }
theorem hput_eq (h : Hp) (g k : Nat) (news : List Value) (b o : Nat) : hput h g k news b o = if b = g ∧ k ≤ o ∧ o < k + news.length then news[o - k]? else h b o := rfl
theorem hput_at (h : Hp) (g k : Nat) (news : List Value) (q : Nat) (u : Value) (hu : news[q]? = some u) : hput h g k news g (k + q) = some u := by
  have := (List.getElem?_eq_some_iff.1 hu).1
  rw [hput_eq, if_pos ⟨rfl, by omega, by omega⟩, Nat.add_sub_cancel_left]
  exact hu
theorem hput_le {h : Hp} {g k : Nat} {news : List Value} (hf : ∀ o, k ≤ o → h g o = none) : Hle h (hput h g k news) := by
  refine Hle.of (fun b o v e => ?_) rfl
  rw [hput_eq]
  split
  · rename_i hc
    obtain ⟨rfl, h1, _⟩ := hc
    rw [hf o h1] at e; cases e
  · exact e
theorem append_core {P : Program} {α : Type} [Rp α] {w : World} {h : Hp} {ts : Array TypeId} {ty e base : Nat} {zv X : Value} {v : Value} {xs ys : List α} {news : List Value} (hzs : zv.cells.size = Rp.sz α)
    (own : Own w h base e (Rp.sz α) v xs.length) (rs : RS h v xs) (hlen : xs.length + ys.length < 1000000000) (hs : Sub h w) (hbase : base ≤ w.heap.size) (hbb : h.base ≤ base) (hylen : 0 < ys.length)
    (hnl : news.length = ys.length * Rp.sz α) (hn2 : ∀ (j : Nat) (x : α), ys[j]? = some x → ∃ cs, Rp.R h x cs ∧ ∀ (i : Nat) (v : Value), cs[i]? = some v → news[j * Rp.sz α + i]? = some v)
    (rnil : v = .slice none 0 0 → xs = [] → (Builtin.append_ ts ty #[.slice none 0 0, X]).run P w = .ok (.slice (some ⟨w.heap.size, 0, none⟩) ys.length (grownCap w ys.length 0 e)) (w.drew.alloc (.cells (news.toArray ++ Builtin.zeroCells zv.cells (grownCap w ys.length 0 e - ys.length)) e)))
    (rroom : ∀ (g cap : Nat) (cur : Array Value), w.heap[g]? = some (.cells cur e (0, 0)) → xs.length + ys.length ≤ cap → xs.length * Rp.sz α + news.length ≤ cur.size → (Builtin.append_ ts ty #[.slice (some ⟨g, 0, none⟩) xs.length cap, X]).run P w =
      .ok (.slice (some ⟨g, 0, none⟩) (xs.length + ys.length) cap) (w.setRow g (cur.toList.take (xs.length * Rp.sz α) ++ news ++ cur.toList.drop (xs.length * Rp.sz α + news.length)).toArray))
    (rgrow : ∀ (g cap : Nat) (olds : List Value), olds.length = xs.length * Rp.sz α → (∀ j u, olds[j]? = some u → w.cell? ⟨g, j, none⟩ = some u) → cap < xs.length + ys.length → xs.length ≤ cap → cap ≤ maxLen → (Builtin.append_ ts ty #[.slice (some ⟨g, 0, none⟩) xs.length cap, X]).run P w =
      .ok (.slice (some ⟨w.heap.size, 0, none⟩) (xs.length + ys.length) (grownCap w (xs.length + ys.length) cap e)) (w.drew.alloc (.cells (olds.toArray ++ news.toArray ++ Builtin.zeroCells zv.cells (grownCap w (xs.length + ys.length) cap e - (xs.length + ys.length))) e))) :
    ∃ v' w' h', (Builtin.append_ ts ty #[v, X]).run P w = .ok v' w' ∧ RS h' v' (xs ++ ys) ∧ Own w' h' base e (Rp.sz α) v' (xs ++ ys).length ∧ Stp v.ownBlock.toList w h w' h' ∧ (v'.ownBlock = v.ownBlock ∨ v'.ownBlock = some w.heap.size) := by
  have hpos := Rp.pos (α := α)
  -- a new block: what was there, and what is added
  have fresh : ∀ (cap : Nat) (olds : List Value), olds.length = xs.length * Rp.sz α → (∀ j x, xs[j]? = some x → ∃ cs, Rp.R h x cs ∧ ∀ i v, cs[i]? = some v → olds[j * Rp.sz α + i]? = some v) → ∀ M : List Nat,
      let G := grownCap w (xs.length + ys.length) cap e
      let w' := w.drew.alloc (.cells (olds.toArray ++ news.toArray ++ Builtin.zeroCells zv.cells (G - (xs.length + ys.length))) e)
      let h' := hput h w.heap.size 0 (olds ++ news)
      RS h' (.slice (some ⟨w.heap.size, 0, none⟩) (xs.length + ys.length) G) (xs ++ ys) ∧ Own w' h' base e (Rp.sz α) (.slice (some ⟨w.heap.size, 0, none⟩) (xs.length + ys.length) G) (xs ++ ys).length ∧ Stp M w h w' h' := by
    intro cap olds hol ho M G w' h'
    have hge : xs.length + ys.length ≤ G := grownCap_ge w (xs.length + ys.length) cap e
    have hcm : G ≤ maxLen := grownCap_le_maxLen w _ cap e (by simp only [maxLen]; omega)
    have hfree : ∀ o, 0 ≤ o → h w.heap.size o = none := fun o _ => by
      cases q : h w.heap.size o with
      | none => rfl
      | some v => exact absurd (hs.lt q) (by omega)
    have hle : Hle h h' := hput_le hfree
    have hblk : w'.heap[w.heap.size]? = some (.cells (olds.toArray ++ news.toArray ++ Builtin.zeroCells zv.cells (G - (xs.length + ys.length))) e (0, 0)) := heap_alloc_new w.drew _
    have htot : (olds ++ news).length = (xs.length + ys.length) * Rp.sz α := by rw [List.length_append, hol, hnl, Nat.add_mul]
    refine ⟨⟨_, _, by rw [List.length_append], by rw [List.length_append]; exact hge, fun _ => ⟨w.heap.size, 0, rfl, fun j x hx => ?_⟩⟩, .inr ⟨w.heap.size, G, _, by rw [List.length_append], hbase, hblk, by rw [List.length_append]; exact hge, ⟨hcm, by rw [List.length_append]; omega⟩, ?_, fun o ho2 => ?_⟩, ?_⟩
    · rcases Nat.lt_or_ge j xs.length with hj | hj
      · rw [List.getElem?_append_left hj] at hx
        obtain ⟨cs, c1, c3⟩ := ho j x hx
        refine ⟨cs, Rp.mono hle c1, fun q u hu => ?_⟩
        rw [Nat.zero_add]
        have hq := c3 q u hu
        have := hput_at h w.heap.size 0 (olds ++ news) (j * Rp.sz α + q) u (by rw [List.getElem?_append_left (List.getElem?_eq_some_iff.1 hq).1]; exact hq)
        rwa [Nat.zero_add] at this
      · rw [List.getElem?_append_right hj] at hx
        obtain ⟨cs, c1, c3⟩ := hn2 (j - xs.length) x hx
        refine ⟨cs, Rp.mono hle c1, fun q u hu => ?_⟩
        rw [Nat.zero_add]
        have hq := c3 q u hu
        have e1 : j * Rp.sz α + q = olds.length + ((j - xs.length) * Rp.sz α + q) := by
          rw [hol, ← Nat.add_assoc, ← Nat.add_mul]
          congr 2
          omega
        have := hput_at h w.heap.size 0 (olds ++ news) (j * Rp.sz α + q) u (by rw [e1, List.getElem?_append_right (Nat.le_add_right _ _), Nat.add_sub_cancel_left]; exact hq)
        rwa [Nat.zero_add] at this
    · simp only [Array.size_append, List.size_toArray, size_zeroCells, hzs, hol, hnl, ← Nat.add_mul]
      congr 1
      omega
    · have : ¬ (o < 0 + (olds ++ news).length) := by rw [htot, Nat.zero_add, ← List.length_append]; omega
      show hput h w.heap.size 0 (olds ++ news) w.heap.size o = none
      rw [hput_eq, if_neg (fun hc => this hc.2.2)]
      exact hfree o (Nat.zero_le _)
    · refine ⟨rfl, rfl, rfl, by simp [w'], fun k hk _ => Go.RowKit.Below.heap_alloc w.drew _ k hk, ⟨fun b o u hu => ?_, by have := hs.big; simp [w', h', hput]; omega, fun k hk => (Go.RowKit.Below.heap_alloc w.drew _ k (Nat.lt_of_lt_of_le hk hs.big)).trans (hs.lows k hk), hs.glob.mono hle rfl rfl, fun b es e1 => by
        obtain ⟨clk, hk⟩ := hs.maps b es e1
        exact ⟨clk, (Go.RowKit.Below.heap_alloc w.drew _ b (Array.getElem?_eq_some_iff.1 hk).1).trans hk⟩⟩, rfl, rfl, hle, fun k o hk _ => ?_, fun _ _ _ => rfl⟩
      · by_cases hc : b = w.heap.size ∧ 0 ≤ o ∧ o < 0 + (olds ++ news).length
        · obtain ⟨rfl, _, ho2⟩ := hc
          have hu' : hput h w.heap.size 0 (olds ++ news) w.heap.size o = some u := hu
          rw [hput_eq] at hu'
          rw [if_pos ⟨rfl, Nat.zero_le _, ho2⟩, Nat.sub_zero] at hu'
          rw [cell_of_row w' w.heap.size o _ e (0, 0) hblk]
          rw [Array.getElem?_append_left (by simp only [Array.size_append, List.size_toArray]; rw [List.length_append] at ho2; omega)]
          rw [List.append_toArray]
          simpa using hu'
        · have hu' : hput h w.heap.size 0 (olds ++ news) b o = some u := hu
          rw [hput_eq] at hu'
          rw [if_neg hc] at hu'
          have hlt := hs.lt hu'
          rw [World.cell?_of_block (w := w) (w' := w') (a := ⟨b, o, none⟩) (Go.RowKit.Below.heap_alloc w.drew _ b hlt)]
          exact hs.at_ b o u hu'
      · show hput h w.heap.size 0 (olds ++ news) k o = h k o
        rw [hput_eq, if_neg (fun hc => by have := hc.1; omega)]
  rcases own with ⟨rfl, hn⟩ | ⟨g, cap, cur, rfl, hbg, hg, hn, hc, hcs, hf⟩
  · have hx : xs = [] := List.eq_nil_of_length_eq_zero hn
    subst hx
    have hr := rnil rfl rfl
    obtain ⟨f1, f2, f3⟩ := fresh 0 [] (by simp) (fun j x hx => by simp at hx) (Value.ownBlock (.slice none 0 0)).toList
    simp only [List.length_nil, Nat.zero_add, List.nil_append, Array.empty_append] at f1 f2 f3 hr ⊢
    exact ⟨_, _, _, hr, f1, f2, f3, .inr rfl⟩
  · obtain ⟨A1, c1, e1, hc1, hr1⟩ := rs
    have hcap : cap = c1 := by injection e1
    by_cases hroom : xs.length + ys.length ≤ cap
    · have hfit : xs.length * Rp.sz α + news.length ≤ cur.size := by rw [hnl, hcs, ← Nat.add_mul]; exact Nat.mul_le_mul_right _ hroom
      have hr := rroom g cap cur hg hroom hfit
      have hle : Hle h (hput h g (xs.length * Rp.sz α) news) := hput_le hf
      have hblk := setRow_heap w g cur (cur.toList.take (xs.length * Rp.sz α) ++ news ++ cur.toList.drop (xs.length * Rp.sz α + news.length)).toArray e (0, 0) hg
      refine ⟨_, _, hput h g (xs.length * Rp.sz α) news, hr, ⟨_, _, by rw [List.length_append], by rw [List.length_append]; exact hroom, fun _ => ⟨g, 0, rfl, fun j x hx => ?_⟩⟩,
        .inr ⟨g, cap, _, by rw [List.length_append], hbg, hblk, by rw [List.length_append]; exact hroom, ⟨hc.1, by rw [List.length_append]; omega⟩, ?_, fun o ho => ?_⟩, ?_, .inl rfl⟩
      · rcases Nat.lt_or_ge j xs.length with hj | hj
        · rw [List.getElem?_append_left hj] at hx
          obtain ⟨b, o, e2, hj1⟩ := hr1 (by intro q; subst q; simp at hj)
          have e3 : A1 = some ⟨g, 0, none⟩ := by injection e1 with q1; exact q1.symm
          rw [e3] at e2
          injection e2 with e2
          injection e2 with e4 e5
          subst e4; subst e5
          exact (hj1 j x hx).mono hle
        · rw [List.getElem?_append_right hj] at hx
          obtain ⟨cs, d1, d2⟩ := hn2 (j - xs.length) x hx
          refine ⟨cs, Rp.mono hle d1, fun q u hu => ?_⟩
          have hq := d2 q u hu
          have e4 : 0 + j * Rp.sz α + q = xs.length * Rp.sz α + ((j - xs.length) * Rp.sz α + q) := by
            rw [Nat.zero_add, ← Nat.add_assoc, ← Nat.add_mul]
            congr 2
            omega
          rw [e4]
          exact hput_at h g _ news _ u hq
      · simp only [List.size_toArray, List.length_append, List.length_take, List.length_drop, Array.length_toList (xs := cur)]
        omega
      · rw [List.length_append, Nat.add_mul] at ho
        rw [hput_eq, if_neg (fun q => by have := q.2.2; omega)]
        exact hf o (by omega)
      · refine ⟨rfl, rfl, rfl, by simp, fun k _ hk => setRow_other w g k _ (fun q => hk (by simp [Value.ownBlock, q])), ⟨fun b o u hu => ?_, by have := hs.big; simp [hput]; omega, fun k hk => by
            rw [setRow_other w g k _ (by have : k < h.base := hk; omega)]; exact hs.lows k hk, hs.glob.mono hle rfl rfl, fun c es e1 => by
            obtain ⟨clk, hk⟩ := hs.maps c es e1
            have hne : c ≠ g := fun hcb => by subst hcb; rw [hg] at hk; cases hk
            exact ⟨clk, (setRow_other w g c _ hne).trans hk⟩⟩, rfl, rfl, hle, fun k o _ hk => ?_, fun _ _ _ => rfl⟩
        · rw [hput_eq] at hu
          split at hu
          · rename_i hq
            obtain ⟨rfl, q1, q2⟩ := hq
            rw [cell_of_row _ b o _ e (0, 0) hblk]
            rw [List.append_assoc]
            simp only [List.getElem?_toArray]
            have l1 : (cur.toList.take (xs.length * Rp.sz α)).length = xs.length * Rp.sz α := by rw [List.length_take, Array.length_toList (xs := cur)]; omega
            rw [List.getElem?_append_right (by rw [l1]; exact q1), l1, List.getElem?_append_left (by omega)]
            exact hu
          · have h0 := hs.at_ b o u hu
            by_cases hbg2 : b = g
            · subst hbg2
              have hlt : o < xs.length * Rp.sz α := by
                rcases Nat.lt_or_ge o (xs.length * Rp.sz α) with q | q
                · exact q
                · rw [hf o q] at hu; cases hu
              rw [cell_of_row _ b o _ e (0, 0) hblk]
              rw [cell_of_row w b o cur e (0, 0) hg] at h0
              rw [List.append_assoc]
              simp only [List.getElem?_toArray]
              rw [List.getElem?_append_left (by rw [List.length_take, Array.length_toList (xs := cur)]; omega), List.getElem?_take_of_lt hlt]
              simpa using h0
            · rw [cell_setRow_other w g _ ⟨b, o, none⟩ hbg2]
              exact h0
        · rw [hput_eq, if_neg (fun q => hk (by simp [Value.ownBlock, q.1]))]
    · have hx1 : ∃ olds : List Value, olds.length = xs.length * Rp.sz α ∧ (∀ q u, olds[q]? = some u → h g (0 + q) = some u ∧ u.oneCell' = true) ∧ ∀ j x, xs[j]? = some x → ∃ cs, Rp.R h x cs ∧ ∀ i v, cs[i]? = some v → olds[j * Rp.sz α + i]? = some v := by
        refine RS.cells fun j x hx => ?_
        obtain ⟨b, o, e2, hj1⟩ := hr1 (by intro q; subst q; simp at hx)
        have e3 : A1 = some ⟨g, 0, none⟩ := by injection e1 with q1; exact q1.symm
        rw [e3] at e2
        injection e2 with e2
        injection e2 with e4 e5
        subst e4; subst e5
        exact hj1 j x hx
      obtain ⟨olds, ho1, ho2, ho3⟩ := hx1
      have hr := rgrow g cap olds ho1 (fun j u hu => by have := hs.at_ _ _ _ (ho2 j u hu).1; rwa [Nat.zero_add] at this) (by omega) (by omega) hc.1
      obtain ⟨f1, f2, f3⟩ := fresh cap olds ho1 ho3 (Value.ownBlock (.slice (some ⟨g, 0, none⟩) xs.length cap)).toList
      exact ⟨_, _, _, hr, f1, f2, f3, .inr rfl⟩
theorem run_append {P : Program} {α : Type} [Rp α] {w : World} {h : Hp} {t ty e base bytes : Nat} {zv : Value} {v v2 : Value} {xs ys : List α} (ht : P.underlying t = some (.slice e)) (hsz : Zhb P e = some (Rp.sz α)) (hz : tZero P e = some zv) (hzs : zv.cells.size = Rp.sz α)
    (hby : tBytes P e = some bytes) (hb : Nat.ble bytes 1000 = true) (own : Own w h base e (Rp.sz α) v xs.length) (rs : RS h v xs) (rs2 : RS h v2 ys) (hlen : xs.length + ys.length < 1000000000) (hs : Sub h w) (hbase : base ≤ w.heap.size) (hbb : h.base ≤ base) :
    ∃ v' w' h', (Builtin.append_ #[t, t] ty #[v, v2]).run P w = .ok v' w' ∧ RS h' v' (xs ++ ys) ∧ Own w' h' base e (Rp.sz α) v' (xs ++ ys).length ∧ Stp v.ownBlock.toList w h w' h' ∧ (v'.ownBlock = v.ownBlock ∨ v'.ownBlock = some w.heap.size) := by
  obtain ⟨i, hi⟩ : ∃ i, P.info? e = some i := by
    unfold Zhb at hsz
    cases hi : P.info? e with
    | none => rw [hi] at hsz; cases hsz
    | some i => exact ⟨i, rfl⟩
  have h1 : i.size = Rp.sz α := by unfold Zhb at hsz; rw [hi] at hsz; simpa using hsz
  have h2 : i.zero = some zv := by unfold tZero at hz; rw [hi] at hz; simpa using hz
  have h3 : i.bytes ≤ 1000 := by
    unfold tBytes at hby; rw [hi] at hby; simp at hby; rw [hby]; exact Nat.le_of_ble_eq_true hb
  have hmul : (xs.length + ys.length) * i.bytes ≤ 1000000000000 := Nat.le_trans (Nat.mul_le_mul (Nat.le_of_lt hlen) h3) (by decide)
  have hpos := Rp.pos (α := α)
  obtain ⟨A2, c2, rfl, hc2, hr2⟩ := rs2
  by_cases hy : ys = []
  · -- nothing is added
    subst hy
    refine ⟨v, w, h, ?_, by simpa using rs, by simpa using own, Stp.refl hs _, .inl rfl⟩
    have hl0 : ∀ s : Nat, (Builtin.firstCells s 0 (.slice A2 0 c2)).run P w = .ok #[] w := by
      intro s
      cases A2 with
      | none => exact run_firstCells_none (P := P) w s 0 0 c2
      | some a => simp [Builtin.firstCells, loadCells, loadCellsFrom]
    rcases own with ⟨rfl, hn⟩ | ⟨g, cap, cur, rfl, hbg, hg, hn, hc, hcs, hf⟩
    · have hx : xs = [] := List.eq_nil_of_length_eq_zero hn
      subst hx
      simp [Builtin.append_, run_underlying ht, sizeOf, typeInfo, hi, Builtin.lenOf, hl0, storeCells]
    · simp [Builtin.append_, run_underlying ht, sizeOf, typeInfo, hi, Builtin.lenOf, hl0, storeCells, hn]
  · obtain ⟨b2, o2, rfl, hj2⟩ := hr2 hy
    obtain ⟨news, hnl, hn1, hn2⟩ := RS.cells hj2
    have hylen : 0 < ys.length := List.length_pos_iff.2 hy
    have hnews : ∀ j u, news[j]? = some u → w.cell? ((⟨b2, o2, none⟩ : Addr).add j) = some u := fun j u hu => by rw [Zf1]; exact hs.at_ _ _ _ (hn1 j u hu).1
    have hone : ∀ u ∈ news, u.oneCell' = true := fun u hu => by
      obtain ⟨q, hq, rfl⟩ := List.getElem_of_mem hu
      exact (hn1 q _ (List.getElem?_eq_getElem hq)).2
    have hnl' : news.length = ys.length * i.size := by rw [h1]; exact hnl
    refine append_core hzs own rs hlen hs hbase hbb hylen hnl hn2 (fun hv hx => ?_) (fun g cap cur hg hroom hfit => ?_) (fun g cap olds ho1 ho2 hg hx hcm => ?_)
    · subst hx
      simp only [List.length_nil, Nat.zero_add] at hmul hlen
      exact run_append_nil (P := P) w t ty e i zv ht hi h2 ⟨b2, o2, none⟩ ys.length c2 news hnl' hnews hylen (by omega) (by omega)
    · rw [← h1] at hfit ⊢
      exact run_append_room (P := P) w t ty e i ht hi g xs.length cap cur hg ⟨b2, o2, none⟩ ys.length c2 news hnl' hnews hone hroom hfit
    · exact run_append_grow (P := P) w t ty e i zv ht hi h2 ⟨g, 0, none⟩ xs.length cap olds (by rw [h1]; exact ho1) (fun j u hu => by rw [Zf1, Nat.zero_add]; exact ho2 j u hu) ⟨b2, o2, none⟩ ys.length c2 news hnl' hnews (by omega) (by omega) (growslice_fits (by omega) (by omega))
end Go.Proofs.YtkodnhngllfemaaGreatDoor
