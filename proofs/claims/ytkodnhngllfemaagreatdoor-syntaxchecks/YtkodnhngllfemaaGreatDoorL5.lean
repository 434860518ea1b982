import Derived.Test.YtkodnhngllfemaaGreatDoorL4
set_option linter.unusedVariables false
set_option linter.unusedSimpArgs false
namespace Go.Proofs.YtkodnhngllfemaaGreatDoor
open Go
theorem St.eta (s : St) : St.mk s.op s.name s.index s.fields s.args s.n s.body s.arms s.other s.els = s := by cases s; rfl
theorem Ar.eta (a : Ar) : Ar.mk a.cond a.labels a.body = a := by cases a; rfl
def st4 (s : St) (m : Int) (b : Bool) : Bool := (s.args.length : Int) == m && nmd s.name b
def st5 (s : St) : Bool := (s.op == 1 || (s.index.length : Int) == 0) && ((s.op == 2 || (s.fields.length : Int) == 0) && (s.op == 5 || s.n == 0))
def st6 (s : St) (b : Bool) : Bool := (b || (s.body.length : Int) == 0) && ((s.op == 3 || s.op == 4 || ((s.arms.length : Int) == 0 && !s.els)) && (s.els || (s.other.length : Int) == 0))
def headS (s : St) : Bool :=
  bif s.op == 1 then decide ((s.index.length : Int) ≤ 1) && (st4 s 1 true && (st5 s && st6 s false))
  else bif s.op == 2 then ((s.fields.length : Int) == (s.args.length : Int) && s.fields.all Zev) && (st4 s (s.args.length : Int) true && (st5 s && st6 s false))
  else bif s.op == 3 then st4 s 1 false && (st5 s && st6 s true)
  else bif s.op == 4 then st4 s 1 false && (st5 s && st6 s false)
  else bif s.op == 5 then (s.n != 0 && labB s.n) && (st4 s 2 true && (st5 s && st6 s true))
  else bif s.op == 6 || s.op == 7 then st4 s 1 false && (st5 s && st6 s true)
  else (s.op == 8 || s.op == 9) && (st4 s 0 false && (st5 s && st6 s false))
theorem ref_j6 (k : Nat) (ρ : Z0g) (s : St) (depth : Int) (r40 : Int × Int × Bool) (b w : Bool) : Z17 k ρ s depth r40 b w = Z0j k ρ s depth r40 (w || !st6 s b) := by
  unfold Z17 st6
  simp only [Zgy, Option.bind_some]
  generalize Z0j k ρ s depth r40 = R
  cases b <;> cases ((s.body.length : Int) == 0) <;> cases (s.op == 3) <;> cases (s.op == 4) <;> cases ((s.arms.length : Int) == 0) <;> cases s.els <;> cases ((s.other.length : Int) == 0) <;> rfl
theorem ref_j5 (k : Nat) (ρ : Z0g) (s : St) (depth : Int) (r40 : Int × Int × Bool) (b w : Bool) : Z2d k ρ s depth r40 b w = Z17 k ρ s depth r40 b (w || !st5 s) := by
  unfold Z2d st5
  simp only [Zgy, Option.bind_some]
  generalize Z17 k ρ s depth r40 b = R
  cases (s.op == 1) <;> cases ((s.index.length : Int) == 0) <;> cases (s.op == 2) <;> cases ((s.fields.length : Int) == 0) <;> cases (s.op == 5) <;> cases (s.n == 0) <;> rfl
theorem ref_j4 {k : Nat} {s : St} (hn : Z52 k s.name = some (Zev s.name)) (ρ : Z0g) (depth : Int) (r40 : Int × Int × Bool) (m : Int) (nm b w : Bool) :
    Z1y k ρ s depth r40 m nm b w = Z2d k ρ s depth r40 b (w || !st4 s m nm) := by
  unfold Z1y st4 nmd
  simp only [Zgy, hn, Option.bind_some]
  generalize Z2d k ρ s depth r40 b = R
  cases nm <;> cases ((s.args.length : Int) == m) <;> cases Zev s.name <;> cases bEq s.name ⟨#[]⟩ <;> rfl
theorem orn (w a b : Bool) : ((w || !a) || !b) = (w || !(a && b)) := by cases w <;> cases a <;> cases b <;> rfl
theorem ref_stmt {s : St} {n d depth : Int} (hn : 0 ≤ n ∧ n ≤ 500) (h1 : s.name.size < 9223372036854775808) (h2 : ∀ x ∈ s.fields, x.size < 9223372036854775808) (h3 : s.fields.length < 9223372036854775808) :
    ∃ K, ∀ k, K ≤ k → Zh3 (k + 1) n d false s depth = Z0j k (Zk k) s depth (n + 1, imax d depth, !(decide (n < 500) && decide (depth ≤ 14))) (!(decide (n < 500) && decide (depth ≤ 14)) || !headS s) := by
  obtain ⟨K1, q1⟩ := refName_ok h1
  obtain ⟨K2, q2⟩ := named_ok h2 h3 (n + 1) (imax d depth) (!(decide (n < 500) && decide (depth ≤ 14))) s.args.length
  refine ⟨max K1 K2, fun k hk => ?_⟩
  have i1 := q1 k (by omega)
  have i2 := q2 k (by omega)
  show Z9j k (Zk k) n d false s depth = _
  unfold Z9j Zbl Z8o Z8w
  simp only [node_ok k n d depth hn, Option.bind_some, cond_false, i2, Zgy, ref_j4 i1, ref_j5, ref_j6, refLabel_ok]
  generalize Z0j k (Zk k) s depth (n + 1, imax d depth, !(decide (n < 500) && decide (depth ≤ 14))) = R
  generalize (!(decide (n < 500) && decide (depth ≤ 14))) = w
  unfold headS
  simp only [orn, Bool.and_assoc]
  by_cases o1 : s.op = 1
  · simp only [beq_t o1, cond_true]
  simp only [beq_f o1, cond_false]
  by_cases o2 : s.op = 2
  · simp only [beq_t o2, cond_true]
  simp only [beq_f o2, cond_false]
  by_cases o3 : s.op = 3
  · simp only [beq_t o3, cond_true]
  simp only [beq_f o3, cond_false]
  by_cases o4 : s.op = 4
  · simp only [beq_t o4, cond_true]
  simp only [beq_f o4, cond_false]
  by_cases o5 : s.op = 5
  · simp only [beq_t o5, cond_true]
    cases (s.n != 0) <;> rfl
  simp only [beq_f o5, cond_false]
  by_cases o6 : s.op = 6
  · simp only [beq_t o6, cond_true, Bool.true_or]
  simp only [beq_f o6, cond_false, Bool.false_or]
  by_cases o7 : s.op = 7
  · simp only [beq_t o7, cond_true]
  simp only [beq_f o7, cond_false]
  by_cases o8 : s.op = 8
  · simp only [beq_t o8, cond_true, Bool.true_or, Bool.true_and]
  simp only [beq_f o8, cond_false, Bool.false_or]
  by_cases o9 : s.op = 9
  · simp only [beq_t o9, cond_true, Bool.true_and]
  · simp only [beq_f o9, cond_false, Bool.false_and, Bool.not_false, Bool.or_true, Bool.true_or]
def shp (op : Int) : Bool × Int × Int × Bool × Bool := (tgetI Z4x op).getD (false, 0, 0, false, false)
def p2 (s : St) : Bool := ((s.index.length : Int) == 0 || (s.op == 1 && decide ((s.index.length : Int) ≤ 1))) && (((s.op == 5) == (s.n != 0)) && labB s.n)
def p3 (s : St) : Bool := bif s.op == 2 then (s.fields.length : Int) == (s.args.length : Int) && s.fields.all Zev else (s.fields.length : Int) == 0
def p4 (s : St) (x : Bool × Int × Int × Bool × Bool) : Bool := (x.2.2.2.1 || (s.body.length : Int) == 0) && ((x.2.2.2.2 || ((s.arms.length : Int) == 0 && !s.els)) && (s.els || (s.other.length : Int) == 0))
theorem pos_eq (m : Nat) : decide ((0 : Int) < (m : Int)) = !((m : Int) == 0) := by
  rw [Bool.eq_iff_iff]; simp; omega
theorem pos1_eq (m : Nat) : decide ((1 : Int) < (m : Int)) = !decide ((m : Int) ≤ 1) := by
  rw [Bool.eq_iff_iff]; simp
theorem prog_j6 (k : Nat) (ρ : Z0f) (s : St) (depth : Int) (r : Option (Bool × Int × Int × Bool × Bool)) (a b : Int) :
    Z4k k ρ s depth r a b = bif p4 s (r.getD (false, 0, 0, false, false)) then Z4i k ρ s depth a b else some (false, a, b) := by
  unfold Z4k Z16 p4
  generalize r.getD (false, 0, 0, false, false) = x
  generalize Z4i k ρ s depth a b = R
  simp only [pos_eq]
  cases x.2.2.2.1 <;> cases x.2.2.2.2 <;> cases ((s.body.length : Int) == 0) <;> cases ((s.arms.length : Int) == 0) <;> cases s.els <;> cases ((s.other.length : Int) == 0) <;> rfl
theorem prog_j4 {k : Nat} {s : St} (h : Z8t k s.fields = some (s.fields.all Zev)) (ρ : Z0f) (depth : Int) (r : Option (Bool × Int × Int × Bool × Bool)) (a b : Int) :
    Z4m k ρ s depth r a b = bif p3 s then Z4k k ρ s depth r a b else some (false, a, b) := by
  unfold Z4m Z37 p3
  generalize Z4k k ρ s depth r a b = R
  simp only [pos_eq, h, Option.bind_some, bne]
  cases (s.op == 2) <;> cases ((s.fields.length : Int) == (s.args.length : Int)) <;> cases s.fields.all Zev <;> cases ((s.fields.length : Int) == 0) <;> rfl
theorem prog_j2 {k : Nat} {s : St} (ρ : Z0f) (depth : Int) (r : Option (Bool × Int × Int × Bool × Bool)) (a b : Int) :
    Z7y k ρ s depth r a b = bif p2 s then Z4m k ρ s depth r a b else some (false, a, b) := by
  unfold Z7y Z3c p2
  generalize Z4m k ρ s depth r a b = R
  simp only [pos_eq, pos1_eq, isLabel_ok, Option.bind_some, bne]
  cases (s.op == 1) <;> cases ((s.index.length : Int) == 0) <;> cases decide ((s.index.length : Int) ≤ 1) <;> cases (s.op == 5) <;> cases (s.n == 0) <;> cases labB s.n <;> rfl
def headP (s : St) : Bool := (tgetI Z4x s.op).isSome && ((nmd s.name (shp s.op).1 && (decide ((shp s.op).2.1 ≤ (s.args.length : Int)) && decide ((s.args.length : Int) ≤ (shp s.op).2.2.1))) && (p2 s && (p3 s && p4 s (shp s.op))))
theorem prog_stmt {s : St} {n d depth : Int} (hn : 0 ≤ n ∧ n ≤ 500) (h1 : s.name.size < 9223372036854775808) (h2 : ∀ x ∈ s.fields, x.size < 9223372036854775808) (h3 : s.fields.length < 9223372036854775808) :
    ∃ K a b, ∀ k, K ≤ k → Zfq (k + 1) n d s depth = bif (decide (n < 500) && decide (depth ≤ 14)) && headP s then Z4i k (Zm k) s depth (n + 1) (imax d depth) else some (false, a, b) := by
  obtain ⟨K1, q1⟩ := isNamed_ok h1
  obtain ⟨K2, q2⟩ := areNames_ok h2 h3
  cases hs : tgetI Z4x s.op with
  | none =>
    refine ⟨0, n, d, fun k hk => ?_⟩
    show Z5g k (Zm k) n d s depth = _
    unfold Z5g Z3q headP
    rw [hs]
    simp
  | some x =>
    refine ⟨max K1 K2, n + 1, imax d depth, fun k hk => ?_⟩
    have i1 := fun b => q1 k b (by omega)
    have i2 := q2 k (by omega)
    show Z5g k (Zm k) n d s depth = _
    have hx : shp s.op = x := by unfold shp; rw [hs]; rfl
    unfold Z5g Z3q headP
    simp only [hs, hx, Option.bind_some, Option.isSome_some, Option.getD_some, Bool.not_true, cond_false, add_ok k n d depth hn, i1, within_ok, prog_j2, prog_j4 i2, prog_j6]
    generalize Z4i k (Zm k) s depth (n + 1) (imax d depth) = R
    cases decide (n < 500) && decide (depth ≤ 14) <;> cases nmd s.name x.1 <;> cases decide (x.2.1 ≤ (s.args.length : Int)) && decide ((s.args.length : Int) ≤ x.2.2.1) <;> cases p2 s <;> cases p3 s <;> cases p4 s x <;> rfl
theorem head_eq (s : St) : headP s = (headS s && decide ((s.args.length : Int) ≤ 501)) := by
  unfold headP headS shp p2 p3 p4 st4 st5 st6 labB
  by_cases o1 : s.op = 1
  · rw [o1]
    rw [show tgetI Z4x 1 = some (true, 1, 1, false, false) from rfl]
    rw [Bool.eq_iff_iff]
    simp only [Option.getD_some, Option.isSome_some]
    generalize s.index.length = li
    generalize s.fields.length = lf
    generalize s.args.length = la
    generalize s.body.length = lb
    generalize s.arms.length = lr
    generalize s.other.length = lo
    generalize s.n = nn
    generalize s.fields.all Zev = fa
    generalize nmd s.name true = t1
    generalize nmd s.name false = t0
    cases s.els <;> cases t1 <;> cases t0 <;> cases fa <;> simp <;> omega
  by_cases o2 : s.op = 2
  · rw [o2]
    rw [show tgetI Z4x 2 = some (true, 0, 501, false, false) from rfl]
    rw [Bool.eq_iff_iff]
    simp only [Option.getD_some, Option.isSome_some]
    generalize s.index.length = li
    generalize s.fields.length = lf
    generalize s.args.length = la
    generalize s.body.length = lb
    generalize s.arms.length = lr
    generalize s.other.length = lo
    generalize s.n = nn
    generalize s.fields.all Zev = fa
    generalize nmd s.name true = t1
    generalize nmd s.name false = t0
    cases s.els <;> cases t1 <;> cases t0 <;> cases fa <;> simp <;> omega
  by_cases o3 : s.op = 3
  · rw [o3]
    rw [show tgetI Z4x 3 = some (false, 1, 1, true, true) from rfl]
    rw [Bool.eq_iff_iff]
    simp only [Option.getD_some, Option.isSome_some]
    generalize s.index.length = li
    generalize s.fields.length = lf
    generalize s.args.length = la
    generalize s.body.length = lb
    generalize s.arms.length = lr
    generalize s.other.length = lo
    generalize s.n = nn
    generalize s.fields.all Zev = fa
    generalize nmd s.name true = t1
    generalize nmd s.name false = t0
    cases s.els <;> cases t1 <;> cases t0 <;> cases fa <;> simp <;> omega
  by_cases o4 : s.op = 4
  · rw [o4]
    rw [show tgetI Z4x 4 = some (false, 1, 1, false, true) from rfl]
    rw [Bool.eq_iff_iff]
    simp only [Option.getD_some, Option.isSome_some]
    generalize s.index.length = li
    generalize s.fields.length = lf
    generalize s.args.length = la
    generalize s.body.length = lb
    generalize s.arms.length = lr
    generalize s.other.length = lo
    generalize s.n = nn
    generalize s.fields.all Zev = fa
    generalize nmd s.name true = t1
    generalize nmd s.name false = t0
    cases s.els <;> cases t1 <;> cases t0 <;> cases fa <;> simp <;> omega
  by_cases o5 : s.op = 5
  · rw [o5]
    rw [show tgetI Z4x 5 = some (true, 2, 2, true, false) from rfl]
    rw [Bool.eq_iff_iff]
    simp only [Option.getD_some, Option.isSome_some]
    generalize s.index.length = li
    generalize s.fields.length = lf
    generalize s.args.length = la
    generalize s.body.length = lb
    generalize s.arms.length = lr
    generalize s.other.length = lo
    generalize s.n = nn
    generalize s.fields.all Zev = fa
    generalize nmd s.name true = t1
    generalize nmd s.name false = t0
    cases s.els <;> cases t1 <;> cases t0 <;> cases fa <;> simp <;> omega
  by_cases o6 : s.op = 6
  · rw [o6]
    rw [show tgetI Z4x 6 = some (false, 1, 1, true, false) from rfl]
    rw [Bool.eq_iff_iff]
    simp only [Option.getD_some, Option.isSome_some]
    generalize s.index.length = li
    generalize s.fields.length = lf
    generalize s.args.length = la
    generalize s.body.length = lb
    generalize s.arms.length = lr
    generalize s.other.length = lo
    generalize s.n = nn
    generalize s.fields.all Zev = fa
    generalize nmd s.name true = t1
    generalize nmd s.name false = t0
    cases s.els <;> cases t1 <;> cases t0 <;> cases fa <;> simp <;> omega
  by_cases o7 : s.op = 7
  · rw [o7]
    rw [show tgetI Z4x 7 = some (false, 1, 1, true, false) from rfl]
    rw [Bool.eq_iff_iff]
    simp only [Option.getD_some, Option.isSome_some]
    generalize s.index.length = li
    generalize s.fields.length = lf
    generalize s.args.length = la
    generalize s.body.length = lb
    generalize s.arms.length = lr
    generalize s.other.length = lo
    generalize s.n = nn
    generalize s.fields.all Zev = fa
    generalize nmd s.name true = t1
    generalize nmd s.name false = t0
    cases s.els <;> cases t1 <;> cases t0 <;> cases fa <;> simp <;> omega
  by_cases o8 : s.op = 8
  · rw [o8]
    rw [show tgetI Z4x 8 = some (false, 0, 0, false, false) from rfl]
    rw [Bool.eq_iff_iff]
    simp only [Option.getD_some, Option.isSome_some]
    generalize s.index.length = li
    generalize s.fields.length = lf
    generalize s.args.length = la
    generalize s.body.length = lb
    generalize s.arms.length = lr
    generalize s.other.length = lo
    generalize s.n = nn
    generalize s.fields.all Zev = fa
    generalize nmd s.name true = t1
    generalize nmd s.name false = t0
    cases s.els <;> cases t1 <;> cases t0 <;> cases fa <;> simp <;> omega
  by_cases o9 : s.op = 9
  · rw [o9]
    rw [show tgetI Z4x 9 = some (false, 0, 0, false, false) from rfl]
    rw [Bool.eq_iff_iff]
    simp only [Option.getD_some, Option.isSome_some]
    generalize s.index.length = li
    generalize s.fields.length = lf
    generalize s.args.length = la
    generalize s.body.length = lb
    generalize s.arms.length = lr
    generalize s.other.length = lo
    generalize s.n = nn
    generalize s.fields.all Zev = fa
    generalize nmd s.name true = t1
    generalize nmd s.name false = t0
    cases s.els <;> cases t1 <;> cases t0 <;> cases fa <;> simp <;> omega
  have hno : tgetI Z4x s.op = none := tgetI_none (fun p hp => by
    simp [Z4x] at hp
    rcases hp with rfl | rfl | rfl | rfl | rfl | rfl | rfl | rfl | rfl <;> (intro h; first | exact o1 h.symm | exact o2 h.symm | exact o3 h.symm | exact o4 h.symm | exact o5 h.symm | exact o6 h.symm | exact o7 h.symm | exact o8 h.symm | exact o9 h.symm))
  rw [hno]
  simp [o1, o2, o3, o4, o5, o6, o7, o8, o9]
end Go.Proofs.YtkodnhngllfemaaGreatDoor
