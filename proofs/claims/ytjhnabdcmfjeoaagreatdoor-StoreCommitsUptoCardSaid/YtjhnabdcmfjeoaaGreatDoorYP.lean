/- Plain laws: what is read is what would be written: one reading for each text. Own work. -/
import Derived.Test.YtjhnabdcmfjeoaaGreatDoorYL
set_option linter.unusedSimpArgs false
set_option linter.unusedVariables false
namespace Go.Proofs.YtjhnabdcmfjeoaaGreatDoor.Ab
open Go

theorem u8_of (c : UInt8) : UInt8.ofNat c.toNat = c := by simp

theorem uintR_canon : ∀ (b : List UInt8) (i acc n' k' : Nat), uintR b i acc = (n', k', 0) → ∃ n, (i = 0 ∨ n ≠ 0) ∧ n' = acc + n * 2 ^ (7 * i) ∧ k' = i + (uintB n).length ∧ ∃ rest, b = uintB n ++ rest
  | [], i, acc, n', k', h => by
    simp only [uintR] at h
    split at h <;> simp at h
  | c :: r, i, acc, n', k', h => by
    have hc := c.toNat_lt
    simp only [uintR] at h
    split at h
    · simp at h
    rename_i h10
    split at h
    · simp at h
    rename_i h9
    split at h
    · rename_i h128
      split at h
      · simp at h
      · rename_i h0
        simp only [Prod.mk.injEq, and_true] at h
        obtain ⟨rfl, rfl⟩ := h
        refine ⟨c.toNat, by omega, rfl, ?_, r, ?_⟩
        · unfold uintB; rw [if_pos h128]; rfl
        · unfold uintB; rw [if_pos h128]; simp
    · rename_i h128
      obtain ⟨n, g1, g2, g3, rest, g4⟩ := uintR_canon r (i + 1) _ n' k' h
      have hn : n ≠ 0 := by omega
      have hu : uintB (c.toNat - 128 + 128 * n) = c :: uintB n := by
        conv => lhs; unfold uintB
        rw [if_neg (by omega)]
        rw [show (c.toNat - 128 + 128 * n) % 128 + 128 = c.toNat by omega, show (c.toNat - 128 + 128 * n) / 128 = n by omega, u8_of]
      refine ⟨c.toNat - 128 + 128 * n, by omega, ?_, ?_, rest, ?_⟩
      · rw [g2, show 7 * (i + 1) = 7 * i + 7 by omega, Nat.pow_add, Nat.add_mul]
        have : 128 * n * 2 ^ (7 * i) = n * (2 ^ (7 * i) * 2 ^ 7) := by
          rw [Nat.mul_comm (2 ^ (7 * i)) (2 ^ 7), ← Nat.mul_assoc, Nat.mul_comm n (2 ^ 7)]
        omega
      · rw [g3, hu]; simp; omega
      · rw [hu, g4]; rfl

theorem uintD_canon {b : List UInt8} (h : (uintD b).2.2 = 0) : (uintD b).2.1 = (uintB (uintD b).1).length ∧ b = uintB (uintD b).1 ++ b.drop (uintD b).2.1 := by
  obtain ⟨n, g1, g2, g3, rest, g4⟩ := uintR_canon b 0 0 (uintD b).1 (uintD b).2.1 (Prod.ext rfl (Prod.ext rfl h))
  simp at g2 g3
  rw [g2, g3]
  refine ⟨rfl, ?_⟩
  conv => rhs; rw [g4]
  rw [List.drop_left]
  exact g4

theorem rdUint_canon {s : Rd} {m : Int} {r : List UInt8} {n : Nat} (h : rdUint s m = ((r, false), n)) : s = (uintB n ++ r, false) ∧ (n : Int) ≤ m ∧ n < 2 ^ 64 := by
  obtain ⟨b, bad⟩ := s
  unfold rdUint at h
  split at h
  · simp at h
  · rename_i hc
    simp only [not_or, Bool.not_eq_true, Int.not_lt, ne_eq, Decidable.not_not] at hc
    obtain ⟨c1, c2, c3⟩ := hc
    simp only [Prod.mk.injEq, and_true] at h
    obtain ⟨rfl, rfl⟩ := h
    obtain ⟨_, k2⟩ := uintD_canon c2
    exact ⟨by rw [← k2, c1], c3, uintD_lt b⟩

theorem textD_canon {b : List UInt8} {m : Int} (h : (textD b m).2.2 = 0) : b = uintB (textD b m).1.length ++ (textD b m).1 ++ b.drop (textD b m).2.1 ∧ ((textD b m).1.length : Int) ≤ m ∧ (textD b m).1.length < 2 ^ 64 := by
  unfold textD at h ⊢
  split at h
  · cases h
  rename_i h0
  rw [if_neg h0]
  split at h
  · rename_i h1; exact absurd h h1
  rename_i h1
  rw [if_neg h1]
  split at h
  · cases h
  rename_i h2
  rw [if_neg h2]
  split at h
  · cases h
  rename_i h3
  rw [if_neg h3]
  have hz : (uintD b).2.2 = 0 := by simpa using h1
  obtain ⟨k1, k2⟩ := uintD_canon hz
  have hk := (uintD_ok b hz).2.1
  have hlen : ((b.drop (uintD b).2.1).take (uintD b).1).length = (uintD b).1 := by simp; omega
  have hlt := uintD_lt b
  simp only [hlen]
  refine ⟨?_, by omega, hlt⟩
  conv => lhs; rw [k2]
  rw [List.append_assoc, ← List.drop_drop, List.take_append_drop]

theorem rdText_canon {s : Rd} {r t : List UInt8} (h : rdText s = ((r, false), t)) : s = (uintB t.length ++ t ++ r, false) := by
  obtain ⟨b, bad⟩ := s
  unfold rdText at h
  split at h
  · simp at h
  · rename_i hc
    simp only [not_or, Bool.not_eq_true, ne_eq, Decidable.not_not] at hc
    obtain ⟨c1, c2⟩ := hc
    simp only [Prod.mk.injEq, and_true] at h
    obtain ⟨rfl, rfl⟩ := h
    obtain ⟨k, _⟩ := textD_canon c2
    rw [← k, c1]

theorem rdByte_canon {s : Rd} {m : Nat} {r : List UInt8} {n : Nat} (h : rdByte s m = ((r, false), n)) : ∃ c : UInt8, s = (c :: r, false) ∧ n = c.toNat ∧ n ≤ m := by
  obtain ⟨b, bad⟩ := s
  cases b with
  | nil => simp [rdByte] at h
  | cons c b =>
    cases bad with
    | true => simp [rdByte] at h
    | false =>
      simp only [rdByte] at h
      split at h
      · simp at h
      · simp only [Prod.mk.injEq, and_true] at h
        obtain ⟨rfl, rfl⟩ := h
        exact ⟨c, rfl, rfl, by omega⟩

/-! values -/
theorem zig_unzig (n : Nat) : zig (unzig n) = n := by
  unfold unzig zig
  split
  · rw [if_pos (by omega)]; omega
  · rw [if_neg (by omega)]; omega

theorem wordB_numB : ∀ l : List UInt8, l.length = 8 → wordB (numB l 0) = l := by
  intro l hl
  match l, hl with
  | [a, b, c, d, e, f, g, h], _ =>
    have ha := a.toNat_lt; have hb := b.toNat_lt; have hc := c.toNat_lt; have hd := d.toNat_lt; have he := e.toNat_lt; have hf := f.toNat_lt; have hg := g.toNat_lt; have hh := h.toNat_lt
    have key : ∀ (x : Nat) (y : UInt8), x = y.toNat → UInt8.ofNat x = y := fun x y e => by rw [e]; simp
    simp only [wordB, numB, List.cons.injEq, and_true]
    refine ⟨key _ _ ?_, key _ _ ?_, key _ _ ?_, key _ _ ?_, key _ _ ?_, key _ _ ?_, key _ _ ?_, key _ _ ?_⟩ <;> omega

theorem cut_canon {r t rest : List UInt8} (h : Lib.cut r [0] = (t, rest, true)) : r = t ++ 0 :: rest := by
  unfold Lib.cut at h
  split at h
  · rename_i hi
    simp only [Prod.mk.injEq, and_true] at h
    obtain ⟨h1, h2⟩ := h
    have hidx := Lib.index_one r 0
    rw [hidx] at hi h1 h2
    have key : ∀ (r : List UInt8), 0 ≤ Lib.indexByte r 0 → r = r.take (Lib.indexByte r 0).toNat ++ 0 :: r.drop ((Lib.indexByte r 0).toNat + 1) := by
      intro r
      induction r with
      | nil => intro h; simp [Lib.indexByte] at h
      | cons b l ih =>
        intro h
        simp only [Lib.indexByte] at h ⊢
        by_cases hb : b = 0
        · subst hb; simp
        · have hb' : (b == 0) = false := by simpa using hb
          rw [hb'] at h ⊢
          simp only [Bool.false_eq_true, if_false] at h ⊢
          by_cases hm : Lib.indexByte l 0 = -1
          · rw [hm] at h; simp at h
          · have hm' : (Lib.indexByte l 0 == -1) = false := by simpa using hm
            rw [hm'] at h ⊢
            simp only [Bool.false_eq_true, if_false] at h ⊢
            have hge : -1 ≤ Lib.indexByte l 0 := by rw [← Lib.index_one]; exact Lib.index_ge _ _
            have h0 : 0 ≤ Lib.indexByte l 0 := by omega
            have := ih h0
            rw [show (Lib.indexByte l 0 + 1).toNat = (Lib.indexByte l 0).toNat + 1 by omega]
            simp only [List.take_succ_cons, List.drop_succ_cons, List.cons_append]
            rw [← this]
    have := key r hi
    rw [this]
    rw [← h1, ← h2]
    simp
  · simp at h

theorem oneD_canon {s r : List UInt8} {v : V} (h : oneD s = (v, r, true)) : s = encV v ++ r := by
  cases s with
  | nil => simp [oneD] at h
  | cons c s =>
    have hcc : ∀ k : Nat, c.toNat = k → c = UInt8.ofNat k := fun k hk => by rw [← hk]; simp
    simp only [oneD] at h
    split at h
    · rename_i h1
      simp only [Prod.mk.injEq, and_true] at h
      obtain ⟨rfl, rfl⟩ := h
      simp [encV, nullV, hcc 1 h1]
    split at h
    · rename_i h2
      split at h
      · simp at h
      · rename_i h8
        simp only [Prod.mk.injEq, and_true] at h
        obtain ⟨rfl, rfl⟩ := h
        have hw := wordB_numB (s.take 8) (by simp; omega)
        simp only [encV]
        rw [show (numB (s.take 8) 0 : Int) - 9223372036854775808 + 9223372036854775808 = (numB (s.take 8) 0 : Int) by omega, Int.toNat_natCast]
        simp [hw, hcc 2 h2]
    split at h
    · rename_i h3
      simp only [Prod.mk.injEq] at h
      obtain ⟨rfl, rfl, hf⟩ := h
      have hcut : Lib.cut s [0] = ((Lib.cut s [0]).1, (Lib.cut s [0]).2.1, true) := by rw [← hf]
      have := cut_canon hcut
      simp only [encV]
      simp [hcc 3 h3]
      exact this
    split at h
    · rename_i h4
      cases s with
      | nil => simp at h
      | cons d s =>
        simp only at h
        split at h
        · simp at h
        · rename_i h1
          simp only [Prod.mk.injEq, and_true] at h
          obtain ⟨rfl, rfl⟩ := h
          have hd : d = 0 ∨ d = 1 := by
            have : d.toNat = 0 ∨ d.toNat = 1 := by omega
            rcases this with h | h
            · left; rw [show d = UInt8.ofNat d.toNat by simp, h]; rfl
            · right; rw [show d = UInt8.ofNat d.toNat by simp, h]; rfl
          rcases hd with rfl | rfl <;> simp [encV, hcc 4 h4]
    · simp at h

theorem ordR_canon : ∀ (f : Nat) (s : List UInt8) (acc l : List V), ordR f s acc = (l, 0) → acc.length ≤ 16 → ∃ l', l = acc ++ l' ∧ s = encVs l' ∧ (∀ v ∈ l', v.valid = 0) ∧ l.length ≤ 16
  | 0, s, acc, l, h, _ => by simp [ordR] at h
  | f + 1, [], acc, l, h, ha => by
    simp only [ordR, Prod.mk.injEq, and_true] at h
    subst h
    exact ⟨[], by simp, by simp [encVs], by simp, ha⟩
  | f + 1, c :: s, acc, l, h, ha => by
    simp only [ordR] at h
    split at h
    · simp at h
    · rename_i hc
      simp only [not_or, Bool.not_eq_false, ne_eq, Decidable.not_not] at hc
      obtain ⟨c1, c2, c3⟩ := hc
      obtain ⟨l', g1, g2, g3, g4⟩ := ordR_canon f _ _ l h (by simp; omega)
      have ho := oneD_canon (s := c :: s) (v := (oneD (c :: s)).1) (r := (oneD (c :: s)).2.1) (by rw [← c1])
      refine ⟨(oneD (c :: s)).1 :: l', by rw [g1]; simp, ?_, ?_, g4⟩
      · conv => lhs; rw [ho]
        rw [show encVs ((oneD (c :: s)).1 :: l') = encV (oneD (c :: s)).1 ++ encVs l' by simp [encVs], ← g2]
      · intro v hv
        rcases List.mem_cons.1 hv with rfl | hv
        · exact c2
        · exact g3 v hv

theorem firstBad_ok : ∀ l : List V, (∀ v ∈ l, v.valid = 0) → firstBad l = 0
  | [], _ => rfl
  | v :: l, h => by
    unfold firstBad
    rw [if_pos (h v (by simp))]
    exact firstBad_ok l fun x hx => h x (by simp [hx])

theorem ordD_canon {s : List UInt8} (h : (ordD s).2 = 0) : ordE (ordD s).1 = (s, 0) := by
  obtain ⟨l', g1, g2, g3, g4⟩ := ordR_canon 17 s [] (ordD s).1 (Prod.ext rfl h) (by simp)
  simp only [List.nil_append] at g1
  rw [g1] at g4 ⊢
  unfold ordE
  rw [if_neg (by rw [firstBad_ok l' g3]; simp), if_neg (by omega), g2]

/-! rows -/
theorem roneD_canon {kind : Int} {b : List UInt8} (h : (roneD kind b).2.2 = 0) (hk : (roneD kind b).1.k = kind) : 1 :: b = rowB (roneD kind b).1 ++ b.drop (roneD kind b).2.1 := by
  unfold roneD at h hk ⊢
  by_cases h1 : kind = 1
  · rw [if_pos h1] at h hk ⊢
    simp only [intD] at h ⊢
    obtain ⟨k1, k2⟩ := uintD_canon h
    simp only [rowB]
    simp [zig_unzig]
    exact k2
  · rw [if_neg h1] at h hk ⊢
    by_cases h2 : kind = 2
    · rw [if_pos h2] at h hk ⊢
      obtain ⟨k, _⟩ := textD_canon h
      simp only [rowB]
      simp
      simpa using k
    · rw [if_neg h2] at h hk ⊢
      split at h
      · simp at h
      · rename_i hc
        rw [if_neg hc]
        simp only [not_or, Nat.not_lt] at hc
        obtain ⟨c1, c2⟩ := hc
        cases b with
        | nil => exact absurd rfl c1
        | cons d b =>
          simp at c2
          have hd : d = 0 ∨ d = 1 := by
            have : d.toNat = 0 ∨ d.toNat = 1 := by omega
            rcases this with h | h
            · left; rw [show d = UInt8.ofNat d.toNat by simp, h]; rfl
            · right; rw [show d = UInt8.ofNat d.toNat by simp, h]; rfl
          rcases hd with rfl | rfl <;> simp [rowB]

theorem rowR_canon : ∀ (cs : List Col) (b : List UInt8) (acc l : List V) (rest : List UInt8), rowR cs b acc = some (l, rest) → ∃ l', l = acc ++ l' ∧ b = rowBs l' ++ rest ∧ l'.length = cs.length
  | [], b, acc, l, rest, h => by
    simp only [rowR, Option.some.injEq, Prod.mk.injEq] at h
    obtain ⟨rfl, rfl⟩ := h
    exact ⟨[], by simp, by simp [rowBs], rfl⟩
  | c :: cs, [], acc, l, rest, h => by simp [rowR] at h
  | c :: cs, x :: b, acc, l, rest, h => by
    have hx : ∀ k : Nat, x.toNat = k → x = UInt8.ofNat k := fun k hk => by rw [← hk]; simp
    simp only [rowR] at h
    split at h
    · cases h
    rename_i h1
    split at h
    · rename_i h2
      split at h
      · cases h
      rename_i h3
      simp only [not_or, ne_eq, Decidable.not_not] at h3
      obtain ⟨l', g1, g2, g3⟩ := rowR_canon cs _ _ l rest h
      have hr := roneD_canon h3.1 h3.2
      refine ⟨(roneD c.kind b).1 :: l', by rw [g1]; simp, ?_, by simp [g3]⟩
      rw [hx 1 h2, show rowBs ((roneD c.kind b).1 :: l') = rowB (roneD c.kind b).1 ++ rowBs l' by simp [rowBs], List.append_assoc, ← g2]
      exact hr
    · rename_i h2
      obtain ⟨l', g1, g2, g3⟩ := rowR_canon cs _ _ l rest h
      refine ⟨nullV :: l', by rw [g1]; simp, ?_, by simp [g3]⟩
      rw [hx 0 (by omega), show rowBs (nullV :: l') = rowB nullV ++ rowBs l' by simp [rowBs], g2]
      simp [rowB, nullV]

theorem rowD_canon {t : Tb} {b : List UInt8} (h : (rowD t b).2 = 0) : rowE t (rowD t b).1 = (b, 0) := by
  unfold rowD at h ⊢
  cases hr : rowR t.cols b [] with
  | none => rw [hr] at h; cases h
  | some x =>
    obtain ⟨l, rest⟩ := x
    rw [hr] at h
    simp only at h ⊢
    split at h
    · cases h
    rename_i hc
    rw [if_neg hc]
    simp only [not_or, ne_eq, Decidable.not_not] at hc
    obtain ⟨c1, c2⟩ := hc
    obtain ⟨l', g1, g2, g3⟩ := rowR_canon t.cols b [] l rest hr
    simp only [List.nil_append] at g1
    subst g1 c1
    simp only
    unfold rowE
    rw [if_neg (by simp [c2]), g2]
    simp
end Go.Proofs.YtjhnabdcmfjeoaaGreatDoor.Ab
/- Plain laws: what the document's reader of rows by order reads, checked by writing it again. Own work. -/
set_option linter.unusedSimpArgs false
set_option linter.unusedVariables false
namespace Go.Proofs.YtjhnabdcmfjeoaaGreatDoor.Ab
open Go

/-- The bytes ahead of the first zero. -/
def noZ : List UInt8 → List UInt8
  | [] => []
  | c :: r => if c.toNat = 0 then [] else c :: noZ r
/-- One value at the begin of bytes, read without care. -/
def loose1 : List UInt8 → V × List UInt8
  | [] => (nullV, [])
  | c :: r =>
    if c.toNat = 2 then (⟨1, (numB (r.take 8) 0 : Int) - 9223372036854775808, [], false⟩, r.drop 8) else
    if c.toNat = 3 then (⟨2, 0, noZ r, false⟩, r.drop ((noZ r).length + 1)) else
    if c.toNat = 4 then (⟨3, 0, [], decide ((r[0]?).any fun d => d.toNat = 1)⟩, r.drop 1) else (⟨(c.toNat : Int) - 1, 0, [], false⟩, r)
def looseR : Nat → List UInt8 → List V
  | 0, _ => []
  | _ + 1, [] => []
  | f + 1, c :: s => (loose1 (c :: s)).1 :: looseR f (loose1 (c :: s)).2
def looseV (s : List UInt8) : List V := looseR s.length s

theorem loose1_len (c : UInt8) (r : List UInt8) : (loose1 (c :: r)).2.length ≤ r.length := by
  simp only [loose1]
  split
  · simp
  · split
    · simp
    · split
      · simp
      · simp
theorem looseR_fuel : ∀ (f g : Nat) (s : List UInt8), s.length ≤ f → s.length ≤ g → looseR f s = looseR g s
  | 0, 0, s, _, _ => rfl
  | 0, g + 1, s, h, _ => by
    have : s = [] := by cases s with | nil => rfl | cons c r => simp at h
    subst this; rfl
  | f + 1, 0, s, _, h => by
    have : s = [] := by cases s with | nil => rfl | cons c r => simp at h
    subst this; rfl
  | f + 1, g + 1, [], _, _ => rfl
  | f + 1, g + 1, c :: r, h1, h2 => by
    have hl := loose1_len c r
    simp only [List.length_cons] at h1 h2
    simp only [looseR]
    rw [looseR_fuel f g _ (by omega) (by omega)]
theorem looseV_nil : looseV [] = [] := rfl
theorem looseV_cons (c : UInt8) (r : List UInt8) : looseV (c :: r) = (loose1 (c :: r)).1 :: looseV (loose1 (c :: r)).2 := by
  have hl := loose1_len c r
  show looseR (r.length + 1) (c :: r) = _
  simp only [looseR]
  rw [looseR_fuel r.length (loose1 (c :: r)).2.length _ hl (by omega)]; rfl
theorem looseV_len : ∀ (n : Nat) (s : List UInt8), s.length ≤ n → (looseV s).length ≤ s.length
  | _, [], _ => by simp [looseV_nil]
  | 0, c :: r, h => by simp at h
  | n + 1, c :: r, h => by
    have hl := loose1_len c r
    simp only [List.length_cons] at h
    rw [looseV_cons]
    have := looseV_len n (loose1 (c :: r)).2 (by omega)
    simp only [List.length_cons]; omega

theorem noZ_len : ∀ l : List UInt8, (noZ l).length ≤ l.length
  | [] => by simp [noZ]
  | c :: r => by
    have := noZ_len r
    simp only [noZ]; split <;> simp; omega
theorem noZ_zero : ∀ (t r : List UInt8), (∀ c ∈ t, c ≠ 0) → noZ (t ++ 0 :: r) = t
  | [], r, _ => by simp [noZ]
  | c :: t, r, h => by
    have hc : ¬ c.toNat = 0 := fun e => h c (by simp) (UInt8.toNat_inj.1 (by simpa using e))
    simp only [List.cons_append, noZ, if_neg hc]
    rw [noZ_zero t r fun x hx => h x (by simp [hx])]

theorem loose1_fits (s : List UInt8) (hs : s.length ≤ 2 ^ 40) : (loose1 s).1.fits := by
  cases s with
  | nil => exact ⟨by simp [loose1, nullV], by simp [loose1, nullV], by simp [loose1, nullV], by simp [loose1, nullV], by simp [loose1, nullV]⟩
  | cons c r =>
    have hc := c.toNat_lt
    have hz := noZ_len r
    simp only [List.length_cons] at hs
    have hn := numB_lt (r.take 8) 0 0 (by simp)
    have hn : numB (r.take 8) 0 < 2 ^ 64 := by
      have : (256 : Nat) ^ (0 + (r.take 8).length) ≤ 256 ^ 8 := Nat.pow_le_pow_right (by omega) (by simp; omega)
      have e : (256 : Nat) ^ 8 = 2 ^ 64 := rfl
      omega
    simp only [loose1]
    split
    · exact ⟨by simp, by simp, by simp; omega, by simp; omega, by simp⟩
    · split
      · exact ⟨by simp, by simp, by simp, by simp, by simp; omega⟩
      · split
        · exact ⟨by simp, by simp, by simp, by simp, by simp⟩
        · exact ⟨by simp; omega, by simp; omega, by simp, by simp, by simp⟩
theorem looseV_fits : ∀ (n : Nat) (s : List UInt8), s.length ≤ n → s.length ≤ 2 ^ 40 → ∀ v ∈ looseV s, v.fits
  | _, [], _, _ => by simp [looseV_nil]
  | 0, c :: r, h, _ => by simp at h
  | n + 1, c :: r, h, h2 => by
    have hl := loose1_len c r
    have hf := loose1_fits (c :: r) h2
    simp only [List.length_cons] at h h2
    rw [looseV_cons]
    intro v hv
    rcases List.mem_cons.1 hv with rfl | hv
    · exact hf
    · exact looseV_fits n _ (by omega) (by omega) v hv

theorem loose1_back (v : V) (rest : List UInt8) (h : v.valid = 0) (hf : v.fits) : loose1 (encV v ++ rest) = (v, rest) := by
  rcases V.cases_valid v h with e | e | ⟨e, hl, hb⟩ | e
  · rw [e]; simp [encV, loose1]
  · have h1 := hf.n1
    have h2 := hf.n2
    rw [e]
    simp [encV, loose1]
    have : List.take 8 (wordB (v.n + 9223372036854775808).toNat ++ rest) = wordB (v.n + 9223372036854775808).toNat := by
      rw [← wordB_len (v.n + 9223372036854775808).toNat, List.take_left]
    rw [this, numB_word _ (by omega)]
    have hd : List.drop 8 (wordB (v.n + 9223372036854775808).toNat ++ rest) = rest := by
      rw [← wordB_len (v.n + 9223372036854775808).toNat, List.drop_left]
    rw [hd]
    simp; omega
  · have hz : ∀ c ∈ v.t, c ≠ 0 := by
      intro c hc h0
      have := List.any_eq_false.1 hb c hc
      subst h0
      simp [badC] at this
    rw [e]
    simp [encV, loose1, noZ_zero v.t rest hz]
    try (rw [show v.t ++ 0 :: rest = (v.t ++ [0]) ++ rest by simp, List.drop_append_of_le_length (by simp)]; simp)
  · rw [e]
    cases hb : v.b with
    | true => simp [encV, loose1]
    | false => simp [encV, loose1]
theorem encV_cons (v : V) : ∃ c r, encV v = c :: r := ⟨_, _, rfl⟩
theorem looseV_back : ∀ l : List V, (∀ v ∈ l, v.valid = 0 ∧ v.fits) → looseV (encVs l) = l
  | [], _ => rfl
  | v :: l, h => by
    obtain ⟨c, r, hc⟩ := encV_cons v
    have h1 := loose1_back v (encVs l) (h v (by simp)).1 (h v (by simp)).2
    have e : encVs (v :: l) = encV v ++ encVs l := by simp [encVs]
    rw [e, hc, List.cons_append, looseV_cons, ← List.cons_append, ← hc, h1]
    simp only
    rw [looseV_back l fun x hx => h x (by simp [hx])]

/-- What the document's reader answers. -/
def ordL (s : List UInt8) : List V × Nat := if ordE (looseV s) = (s, 0) then (looseV s, 0) else ([], 3)
theorem ordR_bad : ∀ (f : Nat) (s : List UInt8) (acc : List V), (ordR f s acc).2 ≠ 0 → ordR f s acc = ([], 3)
  | 0, _, _, _ => rfl
  | f + 1, [], acc, h => by simp [ordR] at h
  | f + 1, c :: s, acc, h => by
    simp only [ordR] at h ⊢
    split
    · rfl
    · rename_i hn
      rw [if_neg hn] at h
      exact ordR_bad f _ _ h
theorem ordE_fits (l : List V) (s : List UInt8) (h : ordE l = (s, 0)) : s = encVs l ∧ ∀ v ∈ l, v.valid = 0 := by
  unfold ordE at h
  split at h
  · rename_i hn; exact absurd (congrArg Prod.snd h) hn
  · rename_i hn
    split at h
    · cases h
    · refine ⟨by cases h; rfl, ?_⟩
      have : ∀ l : List V, firstBad l = 0 → ∀ v ∈ l, v.valid = 0 := by
        intro l
        induction l with
        | nil => simp
        | cons v l ih =>
          intro h
          simp only [firstBad] at h
          split at h
          · rename_i hv
            intro x hx
            rcases List.mem_cons.1 hx with rfl | hx
            · exact hv
            · exact ih h x hx
          · rename_i hv; exact absurd h hv
      exact this l (by simpa using hn)
theorem ordL_eq (s : List UInt8) (hs : s.length ≤ 2 ^ 40) : ordL s = ordD s := by
  unfold ordL
  split
  · rename_i h
    have := ordD_back (looseV s) (looseV_fits s.length s (by omega) hs) (by rw [h])
    rw [h] at this
    exact this.symm
  · rename_i h
    by_cases hd : (ordD s).2 = 0
    · exfalso
      have hc := ordD_canon hd
      obtain ⟨e1, e2⟩ := ordE_fits _ _ hc
      refine h ?_
      have hfit := (ordD_fits s hs).1
      have := looseV_back (ordD s).1 fun v hv => ⟨e2 v hv, hfit v hv⟩
      rw [← e1] at this
      rw [this]; exact hc
    · exact (ordR_bad _ _ _ hd).symm
end Go.Proofs.YtjhnabdcmfjeoaaGreatDoor.Ab
/- Plain laws: what the document's reader of rows reads, checked by writing it again. Own work. -/
set_option linter.unusedSimpArgs false
set_option linter.unusedVariables false
namespace Go.Proofs.YtjhnabdcmfjeoaaGreatDoor.Ab
open Go

/-- One value of a kind, read without care; how many bytes. -/
def rl1 (kind : Int) (b : List UInt8) : V × Nat :=
  if kind = 1 then (⟨1, (intD b).1, [], false⟩, (intD b).2.1) else if kind = 2 then (⟨2, 0, (textD b 4096).1, false⟩, (textD b 4096).2.1) else
  if kind = 3 then (⟨3, 0, [], decide ((b[0]?).any fun d => d.toNat = 1)⟩, 1) else (⟨kind, 0, [], false⟩, 0)
def rlR : List Col → List UInt8 → List V
  | [], _ => []
  | _ :: _, [] => []
  | c :: cs, x :: b => if x.toNat = 1 then (rl1 c.kind b).1 :: rlR cs (b.drop (rl1 c.kind b).2) else nullV :: rlR cs b

theorem textD_short (b : List UInt8) (m : Int) : (textD b m).1.length ≤ b.length := by
  unfold textD
  split
  · simp
  · split
    · simp
    · split
      · simp
      · split
        · simp
        · simp; omega
theorem intD_range (b : List UInt8) : -9223372036854775808 ≤ (intD b).1 ∧ (intD b).1 ≤ 9223372036854775807 := by
  have := uintD_lt b
  simp only [intD, unzig]
  split <;> omega
theorem rl1_fits (kind : Int) (b : List UInt8) (hb : b.length ≤ 2 ^ 40) (hk : -9223372036854775808 ≤ kind ∧ kind ≤ 9223372036854775807) : (rl1 kind b).1.fits := by
  have h1 := intD_range b
  have h2 := textD_short b 4096
  unfold rl1
  split
  · exact ⟨by simp, by simp, h1.1, h1.2, by simp⟩
  · split
    · exact ⟨by simp, by simp, by simp, by simp, by simp; omega⟩
    · split
      · exact ⟨by simp, by simp, by simp, by simp, by simp⟩
      · exact ⟨hk.1, hk.2, by simp, by simp, by simp⟩
theorem rlR_fits : ∀ (cs : List Col) (b : List UInt8), b.length ≤ 2 ^ 40 → (∀ c ∈ cs, -9223372036854775808 ≤ c.kind ∧ c.kind ≤ 9223372036854775807) → ∀ v ∈ rlR cs b, v.fits
  | [], _, _, _ => by simp [rlR]
  | _ :: _, [], _, _ => by simp [rlR]
  | c :: cs, x :: b, hb, hc => by
    simp only [List.length_cons] at hb
    simp only [rlR]
    split
    · intro v hv
      rcases List.mem_cons.1 hv with rfl | hv
      · exact rl1_fits _ _ (by omega) (hc c (by simp))
      · exact rlR_fits cs _ (by simp; omega) (fun c h => hc c (by simp [h])) v hv
    · intro v hv
      rcases List.mem_cons.1 hv with rfl | hv
      · exact ⟨by simp [nullV], by simp [nullV], by simp [nullV], by simp [nullV], by simp [nullV]⟩
      · exact rlR_fits cs _ (by omega) (fun c h => hc c (by simp [h])) v hv
theorem rlR_len : ∀ (cs : List Col) (b : List UInt8), (rlR cs b).length ≤ cs.length
  | [], _ => by simp [rlR]
  | _ :: _, [] => by simp [rlR]
  | c :: cs, x :: b => by
    simp only [rlR]
    split
    · have := rlR_len cs (b.drop (rl1 c.kind b).2); simp; omega
    · have := rlR_len cs b; simp; omega

theorem rlR_back (rest : List UInt8) : ∀ (cs : List Col) (l : List V), cs.length = l.length → chkR cs l = 0 → (∀ v ∈ l, v.fits) → rlR cs (rowBs l ++ rest) = l
  | [], [], _, _, _ => rfl
  | [], _ :: _, h, _, _ => by simp at h
  | _ :: _, [], h, _, _ => by simp at h
  | c :: cs, v :: l, hlen, hchk, hf => by
    obtain ⟨h1, h2⟩ := chkR_cons c cs v l hchk
    have ih := rlR_back rest cs l (by simpa using hlen) h2 fun v hv => hf v (by simp [hv])
    have hv : v.valid = 0 := by
      simp only [fitE] at h1
      split at h1
      · rename_i hn; exact absurd h1 hn
      · rename_i hn; simpa using hn
    have hvf := hf v (by simp)
    have hk : v.k = 0 ∨ v.k = c.kind := by
      simp only [fitE] at h1
      rw [if_neg (by simp [hv])] at h1
      by_cases h0 : v.k = 0
      · exact .inl h0
      · rw [if_neg h0] at h1
        split at h1
        · cases h1
        · rename_i hn; exact .inr (by simpa using hn)
    simp only [rowBs, List.flatMap_cons, List.append_assoc] at ih ⊢
    rcases V.cases_valid v hv with e | e | ⟨e, hl, _⟩ | e
    · rw [e]
      simp [rowB, rlR, nullV] at ih ⊢
      exact ih
    · have hc : c.kind = 1 := by rw [e] at hk; simp at hk; exact hk.symm
      rw [e]
      simp only [rowB]
      simp [rlR, rl1, hc, intD, uintD_back _ _ (zig_lt v.n hvf.n1 hvf.n2), unzig_zig]
      exact ih
    · have hc : c.kind = 2 := by rw [e] at hk; simp at hk; exact hk.symm
      have ht := textD_back v.t ((l.flatMap rowB) ++ rest) 4096 (by omega) (by omega)
      rw [e]
      simp only [rowB]
      simp [rlR, rl1, hc, List.append_assoc] at ht ⊢
      rw [ht]
      have hd : List.drop ((uintB v.t.length).length + v.t.length) (uintB v.t.length ++ (v.t ++ (List.flatMap rowB l ++ rest))) = List.flatMap rowB l ++ rest := by
        rw [← List.append_assoc, ← List.length_append, List.drop_left]
      simp only [hd]
      simpa using ih
    · have hc : c.kind = 3 := by rw [e] at hk; simp at hk; exact hk.symm
      rw [e]
      simp only [rowB]
      cases hb : v.b with
      | true => simp [rlR, rl1, hc]; exact ih
      | false => simp [rlR, rl1, hc]; exact ih

theorem rowR_fits : ∀ (cs : List Col) (b : List UInt8) (acc l : List V) (rest : List UInt8), b.length ≤ 2 ^ 40 → (∀ v ∈ acc, v.fits) → rowR cs b acc = some (l, rest) → ∀ v ∈ l, v.fits
  | [], b, acc, l, rest, _, ha, h => by
    simp only [rowR, Option.some.injEq, Prod.mk.injEq] at h
    rw [← h.1]; exact ha
  | _ :: _, [], _, _, _, _, _, h => by simp [rowR] at h
  | c :: cs, x :: b, acc, l, rest, hb, ha, h => by
    simp only [List.length_cons] at hb
    simp only [rowR] at h
    have hfit := roneD_facts c.kind b (by omega)
    split at h
    · cases h
    · split at h
      · split at h
        · cases h
        · refine rowR_fits cs _ _ l rest (by simp; omega) (fun v hv => ?_) h
          rcases List.mem_append.1 hv with hv | hv
          · exact ha v hv
          · simp at hv; subst hv; exact hfit.1
      · refine rowR_fits cs _ _ l rest (by omega) (fun v hv => ?_) h
        rcases List.mem_append.1 hv with hv | hv
        · exact ha v hv
        · simp at hv; subst hv; exact ⟨by simp [nullV], by simp [nullV], by simp [nullV], by simp [nullV], by simp [nullV]⟩
theorem rowD_fits (t : Tb) (b : List UInt8) (hb : b.length ≤ 2 ^ 40) : ∀ v ∈ (rowD t b).1, v.fits := by
  unfold rowD
  split
  · simp
  · rename_i l rest hr
    split
    · simp
    · exact rowR_fits t.cols b [] l rest hb (by simp) hr

theorem rowL_eq (t : Tb) (b : List UInt8) (hb : b.length ≤ 2 ^ 40) (hk : ∀ c ∈ t.cols, -9223372036854775808 ≤ c.kind ∧ c.kind ≤ 9223372036854775807) :
    (if rowE t (rlR t.cols b) = (b, 0) then (rlR t.cols b, 0) else ([], 3)) = rowD t b := by
  have hf := rowD_fits t b hb
  split
  · rename_i h
    have := rowD_back t (rlR t.cols b) (rlR_fits t.cols b hb hk) (by rw [h])
    rw [h] at this
    exact this.symm
  · rename_i h
    by_cases hd : (rowD t b).2 = 0
    · exfalso
      have hc := rowD_canon hd
      refine h ?_
      have hc' := hc
      unfold rowE at hc'
      split at hc'
      · rename_i hn; exact absurd (congrArg Prod.snd hc') hn
      · rename_i hn
        have hchk : chkE t (rowD t b).1 = 0 := by simpa using hn
        have hlen : (rowD t b).1.length = t.cols.length := by
          by_cases h : (rowD t b).1.length = t.cols.length
          · exact h
          · rw [chkE, if_pos h] at hchk; cases hchk
        rw [chkE, if_neg (by omega)] at hchk
        have := rlR_back [] t.cols _ hlen.symm hchk hf
        rw [List.append_nil, show rowBs (rowD t b).1 = b from congrArg Prod.fst hc'] at this
        rw [this]; exact hc
    · unfold rowD at hd ⊢
      split at hd
      · rfl
      · rename_i l rest hr
        split at hd
        · rename_i h2; rw [if_pos h2]
        · exact absurd rfl hd
end Go.Proofs.YtjhnabdcmfjeoaaGreatDoor.Ab
/- Plain laws: what the document's reader of done changes reads, checked by writing it again. Own work. -/
set_option linter.unusedSimpArgs false
set_option linter.unusedVariables false
namespace Go.Proofs.YtjhnabdcmfjeoaaGreatDoor.Ab
open Go

def nrm (s : Rd) : Rd := if s.2 = true then ([], true) else s
theorem nrm_bad (b : List UInt8) : nrm (b, true) = ([], true) := rfl
theorem nrm_ok (b : List UInt8) : nrm (b, false) = (b, false) := rfl
def rdU (s : Rd) (m : Int) : Rd × Nat := (nrm (rdUint s m).1, (rdUint s m).2)
def rdT (s : Rd) : Rd × List UInt8 := (nrm (rdText s).1, (rdText s).2)
def lDeps : Nat → Rd → List Int → Rd × List Int
  | 0, s, acc => (s, acc)
  | n + 1, s, acc => lDeps n (rdU s 9223372036854775807).1 (acc ++ [((rdU s 9223372036854775807).2 : Int)])
def lRow (t : Tb) (c : UInt8) (txt : List UInt8) : List V := if c.toNat = 1 then (ordD txt).1 else (rowD t txt).1
def lWrites (ts : List Tb) : Nat → Rd → List Wr → Option (Rd × List Wr)
  | 0, s, acc => some (s, acc)
  | n + 1, s, acc => if s.2 = true then some (s, acc) else match rdU s 1000 with
    | ((_, true), _) => none
    | (([], false), _) => none
    | ((c :: r, false), u) => match ts[u]? with
      | none => none
      | some t => lWrites ts n (rdT (r, false)).1 (acc ++ [⟨t.name, decide (c.toNat = 1), lRow t c (rdT (r, false)).2⟩])
def decL (ts : List Tb) (b : List UInt8) : Dn × Nat := match b with
  | [] => (noDn, 3)
  | c :: r => if c.toNat ≠ 1 then (noDn, 3) else
    let s1 := rdU (r, false) 9223372036854775807
    let s2 := rdU s1.1 16
    let s3 := lDeps s2.2 s2.1 []
    let s4 := rdU s3.1 (r.length + 1 : Nat)
    match lWrites ts s4.2 s4.1 [] with
    | none => (noDn, 3)
    | some (s5, ws) => if s5.2 = true ∨ encD ts ⟨0, s1.2, s3.2, ws⟩ ≠ (c :: r, 0) then (noDn, 3) else (⟨0, s1.2, s3.2, ws⟩, 0)

/-! unique names -/
theorem tbIdx_app (s : List UInt8) : ∀ (a b : List Tb) (i : Nat), tbIdx (a ++ b) s i = (tbIdx a s i).or (tbIdx b s (i + a.length))
  | [], b, i => by simp [tbIdx]
  | t :: a, b, i => by
    simp only [List.cons_append, tbIdx]
    split
    · rfl
    · rw [tbIdx_app s a b (i + 1)]; simp [Nat.add_assoc, Nat.add_comm 1]
theorem dupE_uniq : ∀ (l seen : List Tb), dupE seen l = 0 → ∀ (n : Nat) (t : Tb), l[n]? = some t → tbIdx (seen ++ l) t.name 0 = some (seen.length + n)
  | [], _, _, n, t, h => by simp at h
  | t0 :: l, seen, hd, n, t, h => by
    simp only [dupE] at hd
    split at hd
    · cases hd
    rename_i hs
    cases n with
    | zero =>
      simp at h
      subst h
      rw [tbIdx_app]
      have : tbIdx seen t0.name 0 = none := by simpa using hs
      rw [this]
      simp [tbIdx]
    | succ n =>
      have := dupE_uniq l (seen ++ [t0]) hd n t (by simpa using h)
      simpa [Nat.add_assoc, Nat.add_comm 1] using this
theorem newE_uniq {ts : List Tb} (h : newE ts = 0) (n : Nat) (t : Tb) (hn : ts[n]? = some t) : findT ts t.name = (n, t, 0) := by
  have hd : dupE [] ts = 0 := by
    unfold newE at h
    split at h
    · cases h
    · split at h
      · exact h
      · rename_i h1; exact absurd h h1
  have := dupE_uniq ts [] hd n t hn
  simp only [List.nil_append, List.length_nil, Nat.zero_add] at this
  unfold findT
  rw [this]
  simp [hn]

/-! readings that go well -/
theorem rdU_ok {s : Rd} {m : Int} {r : List UInt8} {n : Nat} (h : rdUint s m = ((r, false), n)) : rdU s m = ((r, false), n) := by
  unfold rdU; rw [h]; rfl
theorem rdUint_more {s : Rd} {m m' : Int} {r : List UInt8} {n : Nat} (h : rdUint s m = ((r, false), n)) (hm : m ≤ m') : rdUint s m' = ((r, false), n) := by
  obtain ⟨h1, h2, h3⟩ := rdUint_canon h
  rw [h1]
  exact rdUint_back n r m' h3 (by omega)
theorem rdT_ok {s : Rd} {r t : List UInt8} (h : rdText s = ((r, false), t)) : rdT s = ((r, false), t) := by
  unfold rdT; rw [h]; rfl

theorem rdDeps_canon : ∀ (n : Nat) (s : Rd) (acc l : List Int) (r : List UInt8), rdDeps n s acc = ((r, false), l) → ∃ ds, l = acc ++ ds ∧ ds.length = n ∧ s = (depsB ds ++ r, false) ∧ (∀ d ∈ ds, 0 ≤ d ∧ d ≤ 9223372036854775807) ∧ lDeps n s acc = ((r, false), l)
  | 0, s, acc, l, r, h => by
    simp only [rdDeps, Prod.mk.injEq] at h
    obtain ⟨rfl, rfl⟩ := h
    exact ⟨[], by simp, rfl, by simp [depsB], by simp, rfl⟩
  | n + 1, s, acc, l, r, h => by
    simp only [rdDeps] at h
    obtain ⟨ds, h1, h2, h3, h4, h5⟩ := rdDeps_canon n _ _ l r h
    have hu : rdUint s 9223372036854775807 = ((depsB ds ++ r, false), (rdUint s 9223372036854775807).2) := by rw [← h3]
    obtain ⟨c1, c2, c3⟩ := rdUint_canon hu
    generalize (rdUint s 9223372036854775807).2 = v at h1 hu c1 c2 c3 h5
    have e : depsB ((v : Int) :: ds) = uintB v ++ depsB ds := by simp [depsB]
    refine ⟨(v : Int) :: ds, by rw [h1]; simp, by simp [h2], by rw [c1, e, List.append_assoc], fun d hd => ?_, ?_⟩
    · rcases List.mem_cons.1 hd with rfl | hd
      · omega
      · exact h4 d hd
    · simp only [lDeps]
      rw [rdU_ok hu]
      simp only
      rw [h3] at h5
      exact h5

theorem rdWrite_canon {ts : List Tb} (hts : newE ts = 0) {s : Rd} {r : List UInt8} {w : Wr} (h : rdWrite s ts = ((r, false), w)) :
    (wrB ts w).2 = 0 ∧ s = ((wrB ts w).1 ++ r, false) ∧ ∃ (u : Nat) (t : Tb) (c : UInt8) (r1 txt : List UInt8), rdU s 1000 = ((c :: r1, false), u) ∧ ts[u]? = some t ∧ rdT (r1, false) = ((r, false), txt) ∧ w = ⟨t.name, decide (c.toNat = 1), lRow t c txt⟩ := by
  unfold rdWrite at h
  split at h
  · simp at h
  rename_i htab
  have htab : (tableE ts (rdUint s 32).2).2 = 0 := by simpa using htab
  obtain ⟨t, ht1, ht2⟩ : ∃ t, ts[(rdUint s 32).2]? = some t ∧ (tableE ts (rdUint s 32).2).1 = t := by
    unfold tableE at htab ⊢
    rw [if_neg (by omega), Int.toNat_natCast] at htab ⊢
    cases hg : ts[(rdUint s 32).2]? with
    | none => rw [hg] at htab; cases htab
    | some t => exact ⟨t, rfl, rfl⟩
  rw [ht2] at h
  have hun := newE_uniq hts _ t ht1
  split at h
  · rename_i hb1
    split at h
    · simp at h
    rename_i hk
    have hk : (keyE t (rdValues (rdByte (rdUint s 32).1 1).1).2).2 = 0 := by simpa using hk
    simp only [Prod.mk.injEq] at h
    obtain ⟨h1, h2⟩ := h
    unfold rdValues at h1 h2 hk
    simp only [Prod.mk.injEq, Bool.or_eq_false_iff, decide_eq_false_iff_not, ne_eq, Decidable.not_not] at h1
    obtain ⟨h1, h3, h4⟩ := h1
    simp only at h2 hk
    have htx : rdText (rdByte (rdUint s 32).1 1).1 = ((r, false), (rdText (rdByte (rdUint s 32).1 1).1).2) := by
      refine Prod.ext (Prod.ext h1 h3) rfl
    generalize (rdText (rdByte (rdUint s 32).1 1).1).2 = txt at htx h2 h4 hk
    have c1 := rdText_canon htx
    have hby : rdByte (rdUint s 32).1 1 = ((uintB txt.length ++ txt ++ r, false), 1) := Prod.ext c1 hb1
    obtain ⟨c, c2, c3, c4⟩ := rdByte_canon hby
    have hu : rdUint s 32 = ((c :: (uintB txt.length ++ txt ++ r), false), (rdUint s 32).2) := by rw [← c2]
    generalize (rdUint s 32).2 = u at hu ht1 hun
    obtain ⟨c5, c6, c7⟩ := rdUint_canon hu
    have ho := ordD_canon h4
    have hko := keyE_ord hk
    have hc1 : c = 1 := by rw [show c = UInt8.ofNat c.toNat by simp, ← c3]; rfl
    subst hc1
    have hwb : wrB ts w = (uintB u ++ 1 :: (uintB txt.length ++ txt), 0) := by
      subst h2
      unfold wrB
      simp only
      rw [hun]
      simp only [ne_eq, not_true_eq_false, if_false, if_true]
      rw [if_neg (by simp [hk]), hko, ho]
    rw [hwb]
    refine ⟨rfl, by rw [c5]; simp, u, t, 1, uintB txt.length ++ txt ++ r, txt, rdU_ok (rdUint_more hu (by omega)), ht1, ?_, by rw [← h2]; simp [lRow]⟩
    rw [c1] at htx
    exact rdT_ok htx
  · rename_i hb1
    simp only [Prod.mk.injEq] at h
    obtain ⟨h1, h2⟩ := h
    unfold rdRow at h1 h2
    simp only [Prod.mk.injEq, Bool.or_eq_false_iff, decide_eq_false_iff_not, ne_eq, Decidable.not_not] at h1
    obtain ⟨h1, h3, h4⟩ := h1
    simp only at h2
    have htx : rdText (rdByte (rdUint s 32).1 1).1 = ((r, false), (rdText (rdByte (rdUint s 32).1 1).1).2) := by
      refine Prod.ext (Prod.ext h1 h3) rfl
    generalize (rdText (rdByte (rdUint s 32).1 1).1).2 = txt at htx h2 h4
    have c1 := rdText_canon htx
    have hby : rdByte (rdUint s 32).1 1 = ((uintB txt.length ++ txt ++ r, false), (rdByte (rdUint s 32).1 1).2) := Prod.ext c1 rfl
    obtain ⟨c, c2, c3, c4⟩ := rdByte_canon hby
    have hu : rdUint s 32 = ((c :: (uintB txt.length ++ txt ++ r), false), (rdUint s 32).2) := by rw [← c2]
    rw [c3] at hb1 c4
    generalize (rdUint s 32).2 = u at hu ht1 hun
    obtain ⟨c5, c6, c7⟩ := rdUint_canon hu
    have ho := rowD_canon h4
    have hc1 : c = 0 := by rw [show c = UInt8.ofNat c.toNat by simp, show c.toNat = 0 by omega]; rfl
    subst hc1
    have hwb : wrB ts w = (uintB u ++ 0 :: (uintB txt.length ++ txt), 0) := by
      subst h2
      unfold wrB
      simp only
      rw [hun]
      simp only [ne_eq, not_true_eq_false, if_false, Bool.false_eq_true]
      rw [ho]
      simp
    rw [hwb]
    refine ⟨rfl, by rw [c5]; simp, u, t, 0, uintB txt.length ++ txt ++ r, txt, rdU_ok (rdUint_more hu (by omega)), ht1, ?_, by rw [← h2]; simp [lRow]⟩
    rw [c1] at htx
    exact rdT_ok htx

theorem rdWrites_canon {ts : List Tb} (hts : newE ts = 0) : ∀ (n : Nat) (s : Rd) (acc l : List Wr) (r : List UInt8), rdWrites ts n s acc = ((r, false), l) → ∃ ws, l = acc ++ ws ∧ ws.length = n ∧ s = (wrsB ts ws ++ r, false) ∧ (∀ w ∈ ws, (wrB ts w).2 = 0) ∧ lWrites ts n s acc = some ((r, false), l)
  | 0, s, acc, l, r, h => by
    simp only [rdWrites, Prod.mk.injEq] at h
    obtain ⟨rfl, rfl⟩ := h
    exact ⟨[], by simp, rfl, by simp [wrsB], by simp, rfl⟩
  | n + 1, s, acc, l, r, h => by
    simp only [rdWrites] at h
    split at h
    · rename_i hb; simp only [Prod.mk.injEq] at h; rw [h.1] at hb; cases hb
    rename_i hb
    obtain ⟨ws, h1, h2, h3, h4, h5⟩ := rdWrites_canon hts n _ _ l r h
    have hw : rdWrite s ts = ((wrsB ts ws ++ r, false), (rdWrite s ts).2) := by rw [← h3]
    generalize (rdWrite s ts).2 = w at h1 hw h5
    obtain ⟨k1, k2, u, t, c, r1, txt, k3, k4, k5, k6⟩ := rdWrite_canon hts hw
    refine ⟨w :: ws, by rw [h1]; simp, by simp [h2], by rw [k2]; simp [wrsB], fun x hx => ?_, ?_⟩
    · rcases List.mem_cons.1 hx with rfl | hx
      · exact k1
      · exact h4 x hx
    · simp only [lWrites]
      rw [if_neg hb, k3]
      simp only
      rw [k4]
      simp only
      rw [k5]
      simp only
      rw [← k6]
      rw [h3] at h5
      exact h5

theorem wrsR_all (ts : List Tb) : ∀ (ws : List Wr) (b : List UInt8), (∀ w ∈ ws, (wrB ts w).2 = 0) → wrsR ts ws b = (b ++ wrsB ts ws, 0)
  | [], b, _ => by simp [wrsR, wrsB]
  | w :: ws, b, h => by
    simp only [wrsR]
    rw [if_pos (h w (by simp)), wrsR_all ts ws _ fun x hx => h x (by simp [hx])]
    simp [wrsB]

theorem decD_canon {ts : List Tb} (hts : newE ts = 0) {b : List UInt8} (h : (decD ts b).2 = 0) : encD ts (decD ts b).1 = (b, 0) ∧ decL ts b = ((decD ts b).1, 0) := by
  unfold decD at h ⊢
  simp only at h ⊢
  split at h
  · cases h
  rename_i hc
  rw [if_neg hc]
  clear h
  simp only [not_or, Bool.not_eq_true, ne_eq, Decidable.not_not, Int.not_lt] at hc
  obtain ⟨c1, c2, c3⟩ := hc
  generalize hs2 : rdUint (decHead b) 9223372036854775807 = s2 at c1 c2 c3 ⊢
  generalize hs3 : rdUint s2.1 16 = s3 at c1 c2 ⊢
  generalize hs4 : rdDeps s3.2 s3.1 [] = s4 at c1 c2 ⊢
  generalize hs5 : rdMany s4.1 = s5 at c1 c2 ⊢
  generalize hs6 : rdWrites ts s5.2 s5.1 [] = s6 at c1 c2 ⊢
  obtain ⟨⟨r6, b6⟩, l6⟩ := s6
  simp only at c1 c2
  subst c1 c2
  obtain ⟨ws, g1, g2, g3, g4, g5⟩ := rdWrites_canon hts _ _ _ _ _ hs6
  simp only [List.nil_append, List.append_nil] at g1 g3
  subst g1
  obtain ⟨s51, s52⟩ := s5
  simp only at g2 g3 g5 hs5
  subst g3
  unfold rdMany at hs5
  obtain ⟨k1, k2, k3⟩ := rdUint_canon hs5
  obtain ⟨s41, s42⟩ := s4
  simp only at k1 k2 hs5 hs4
  subst k1
  obtain ⟨ds, e1, e2, e3, e4, e5⟩ := rdDeps_canon _ _ _ _ _ hs4
  simp only [List.nil_append] at e1
  subst e1
  obtain ⟨s31, s32⟩ := s3
  simp only at e2 e3 e5 hs3 hs4
  subst e3
  obtain ⟨f1, f2, f3⟩ := rdUint_canon hs3
  obtain ⟨s21, num⟩ := s2
  simp only at f1 hs2 hs3 c3
  subst f1
  obtain ⟨m1, m2, m3⟩ := rdUint_canon hs2
  have hb : b = 1 :: (uintB num ++ (uintB s32 ++ (depsB s42 ++ (uintB s52 ++ wrsB ts l6)))) := by
    unfold decHead at m1
    simp only [Prod.mk.injEq, decide_eq_false_iff_not, ne_eq, Decidable.not_not] at m1
    obtain ⟨m4, m5⟩ := m1
    cases b with
    | nil => simp [rdByte] at m5
    | cons c r =>
      simp only [rdByte] at m4 m5
      split at m5
      · simp at m5
      rename_i hc1
      rw [if_neg hc1] at m4
      simp only at m4 m5
      rw [show c = UInt8.ofNat c.toNat by simp, m5, m4]; rfl
  have henc : encD ts ⟨0, (num : Int), s42, l6⟩ = (b, 0) := by
    unfold encD
    simp only
    rw [if_neg (by omega), if_neg, wrsR_all ts l6 _ g4, hb]
    · simp [headB, e2, g2]
    · intro h
      obtain ⟨n, hn, hn2⟩ := List.any_eq_true.1 h
      have := e4 n hn
      simp at hn2; omega
  refine ⟨henc, ?_⟩
  have hb' := hb
  subst hb
  rw [m1] at hs2
  simp only [decL]
  rw [if_neg (by decide), rdU_ok hs2]
  simp only
  rw [rdU_ok hs3]
  simp only
  rw [e5]
  simp only
  have hmany := rdUint_more (m' := ((uintB num ++ (uintB s32 ++ (depsB s42 ++ (uintB s52 ++ wrsB ts l6)))).length + 1 : Nat)) hs5 (by simp; omega)
  rw [rdU_ok hmany]
  simp only
  rw [g5]
  simp only
  rw [if_neg (by simp [henc])]

/-! what is read fits -/
theorem encVs_count : ∀ l : List V, l.length ≤ (encVs l).length
  | [] => by simp
  | v :: l => by
    have h := encVs_count l
    have e : encVs (v :: l) = encV v ++ encVs l := by simp [encVs]
    obtain ⟨c, r, hc⟩ := encV_cons v
    rw [e, hc]; simp; omega
theorem rowBs_count : ∀ l : List V, l.length ≤ (rowBs l).length
  | [] => by simp
  | v :: l => by
    have h := rowBs_count l
    have e : rowBs (v :: l) = rowB v ++ rowBs l := by simp [rowBs]
    have h1 : 1 ≤ (rowB v).length := by unfold rowB; split <;> simp
    rw [e]; simp; omega
theorem ordD_count (s : List UInt8) : (ordD s).1.length ≤ s.length := by
  by_cases h : (ordD s).2 = 0
  · have hc := ordD_canon h
    obtain ⟨e1, e2⟩ := ordE_fits _ _ hc
    have := encVs_count (ordD s).1
    rw [← e1] at this; exact this
  · have := ordR_bad _ _ _ h
    unfold ordD; rw [this]; simp
theorem rowD_count (t : Tb) (s : List UInt8) : (rowD t s).1.length ≤ s.length := by
  by_cases h : (rowD t s).2 = 0
  · have hc := rowD_canon h
    unfold rowE at hc
    split at hc
    · rename_i hn; exact absurd (congrArg Prod.snd hc) hn
    · have e : rowBs (rowD t s).1 = s := congrArg Prod.fst hc
      have := rowBs_count (rowD t s).1
      rw [e] at this; exact this
  · unfold rowD at h ⊢
    split at h
    · simp
    · split at h
      · rename_i h2; rw [if_pos h2]; simp
      · exact absurd rfl h
theorem lRow_count (t : Tb) (c : UInt8) (s : List UInt8) : (lRow t c s).length ≤ s.length := by
  unfold lRow; split
  · exact ordD_count s
  · exact rowD_count t s
theorem lRow_fits (t : Tb) (c : UInt8) (s : List UInt8) (hs : s.length ≤ 2 ^ 40) : ∀ v ∈ lRow t c s, v.fits := by
  unfold lRow; split
  · exact (ordD_fits s hs).1
  · exact rowD_fits t s hs
theorem nrm_len (s : Rd) : (nrm s).1.length ≤ s.1.length := by
  unfold nrm; split <;> simp
theorem rdU_len (s : Rd) (m : Int) : (rdU s m).1.1.length ≤ s.1.length := by
  have h1 := rdUint_len s m
  have h2 := nrm_len (rdUint s m).1
  unfold rdU; simp only; omega
theorem rdU_le (s : Rd) (m : Int) (h : 0 ≤ m) : ((rdU s m).2 : Int) ≤ m := rdUint_le s m h
theorem rdT_len (s : Rd) : (rdT s).1.1.length + (rdT s).2.length ≤ s.1.length := by
  unfold rdT
  rcases h : rdText s with ⟨⟨r, bad⟩, t⟩
  cases bad with
  | false =>
    have := rdText_canon h
    rw [this]
    simp [nrm]; omega
  | true =>
    have ht : t = [] := by
      unfold rdText at h
      split at h
      · simp at h; exact h.2
      · simp at h
    subst ht
    simp [nrm]
theorem lDeps_facts : ∀ (n : Nat) (s : Rd) (acc : List Int), (lDeps n s acc).1.1.length ≤ s.1.length ∧ (lDeps n s acc).2.length = acc.length + n ∧ ((∀ d ∈ acc, 0 ≤ d ∧ d ≤ 9223372036854775807) → ∀ d ∈ (lDeps n s acc).2, 0 ≤ d ∧ d ≤ 9223372036854775807)
  | 0, s, acc => ⟨by simp [lDeps], by simp [lDeps], fun h => h⟩
  | n + 1, s, acc => by
    obtain ⟨h1, h2, h3⟩ := lDeps_facts n (rdU s 9223372036854775807).1 (acc ++ [((rdU s 9223372036854775807).2 : Int)])
    have h4 := rdU_len s 9223372036854775807
    have h5 := rdU_le s 9223372036854775807 (by omega)
    simp only [lDeps]
    refine ⟨by omega, by rw [h2]; simp; omega, fun h => h3 fun d hd => ?_⟩
    rcases List.mem_append.1 hd with hd | hd
    · exact h d hd
    · simp at hd; omega
theorem rsum_app : ∀ a b : List Wr, rsum (a ++ b) = rsum a + rsum b
  | [], b => by simp [rsum]
  | w :: a, b => by simp only [List.cons_append, rsum, rsum_app a b]; omega
theorem lWrites_facts (ts : List Tb) : ∀ (n : Nat) (s : Rd) (acc : List Wr) (s' : Rd) (l : List Wr), s.1.length ≤ 2 ^ 30 → lWrites ts n s acc = some (s', l) → ∃ ws, l = acc ++ ws ∧ ws.length + rsum ws + s'.1.length ≤ s.1.length ∧ ws.length ≤ n ∧ ∀ w ∈ ws, w.row.length ≤ s.1.length ∧ ∀ v ∈ w.row, v.fits
  | 0, s, acc, s', l, hs, h => by
    simp only [lWrites, Option.some.injEq, Prod.mk.injEq] at h
    obtain ⟨rfl, rfl⟩ := h
    exact ⟨[], by simp, by simp [rsum], by simp, by simp⟩
  | n + 1, s, acc, s', l, hs, h => by
    simp only [lWrites] at h
    split at h
    · simp only [Option.some.injEq, Prod.mk.injEq] at h
      obtain ⟨rfl, rfl⟩ := h
      exact ⟨[], by simp, by simp [rsum], by simp, by simp⟩
    have hu := rdU_len s 1000
    split at h
    · cases h
    · cases h
    · rename_i c r u hr
      rw [hr] at hu
      simp only [List.length_cons] at hu
      have ht := rdT_len (r, false)
      simp only at ht
      split at h
      · cases h
      rename_i t htg
      obtain ⟨ws, h1, h2, h3, h4⟩ := lWrites_facts ts n _ _ s' l (by omega) h
      have hc := lRow_count t c (rdT (r, false)).2
      have hf := lRow_fits t c (rdT (r, false)).2 (by omega)
      refine ⟨⟨t.name, decide (c.toNat = 1), lRow t c (rdT (r, false)).2⟩ :: ws, by rw [h1]; simp, by simp only [List.length_cons, rsum]; omega, by simp; omega, fun w hw => ?_⟩
      rcases List.mem_cons.1 hw with rfl | hw
      · exact ⟨by simp only; omega, hf⟩
      · obtain ⟨a, b⟩ := h4 w hw
        exact ⟨by omega, b⟩

theorem decL_fits (ts : List Tb) (r : List UInt8) (hb : r.length + 1 ≤ 2 ^ 20) (s5 : Rd) (ws : List Wr) :
    let s1 := rdU (r, false) 9223372036854775807
    let s2 := rdU s1.1 16
    let s3 := lDeps s2.2 s2.1 []
    let s4 := rdU s3.1 (r.length + 1 : Nat)
    lWrites ts s4.2 s4.1 [] = some (s5, ws) → Dn.fits ⟨0, s1.2, s3.2, ws⟩ := by
  intro s1 s2 s3 s4 h
  have h1 := rdU_len (r, false) 9223372036854775807
  have h2 := rdU_len s1.1 16
  obtain ⟨h3, h4, h5⟩ := lDeps_facts s2.2 s2.1 []
  have h6 := rdU_len s3.1 (r.length + 1 : Nat)
  have k1 : s1.1.1.length ≤ r.length := h1
  have k2 : s2.1.1.length ≤ s1.1.1.length := h2
  have k3 : s3.1.1.length ≤ s2.1.1.length := h3
  have k4 : s4.1.1.length ≤ s3.1.1.length := h6
  obtain ⟨ws', g1, g2, g3, g4⟩ := lWrites_facts ts s4.2 s4.1 [] s5 ws (by omega) h
  simp only [List.nil_append] at g1
  subst g1
  have h7 := rdU_le (r, false) 9223372036854775807 (by omega)
  exact ⟨h7, fun n hn => (h5 (by simp) n hn).2, by simp only; omega, fun w hw => ⟨by have := (g4 w hw).1; omega, (g4 w hw).2⟩, by simp only; omega⟩

theorem decL_eq (ts : List Tb) (hts : newE ts = 0) (b : List UInt8) (hb : b.length ≤ 2 ^ 20) : decL ts b = decD ts b := by
  have h32 : ts.length ≤ 32 := by
    unfold newE at hts
    split at hts
    · cases hts
    · omega
  by_cases hd : (decD ts b).2 = 0
  · obtain ⟨h1, h2⟩ := decD_canon hts hd
    rw [h2, ← hd]
  · have hdd : decD ts b = (noDn, 3) := by
      unfold decD at hd ⊢
      simp only at hd ⊢
      split at hd
      · rename_i hc; rw [if_pos hc]
      · exact absurd rfl hd
    rw [hdd]
    cases b with
    | nil => rfl
    | cons c r =>
      simp only [decL]
      split
      · rfl
      rename_i hc
      split
      · rfl
      rename_i s5 ws hw
      split
      · rfl
      rename_i he
      exfalso
      simp only [not_or, ne_eq, Decidable.not_not] at he
      have hfit := decL_fits ts r (by simpa using hb) s5 ws hw
      have := (decD_back ts _ h32 hfit (by rw [he.2])).1
      rw [he.2] at this
      simp only at this
      rw [this] at hd
      exact hd rfl
end Go.Proofs.YtjhnabdcmfjeoaaGreatDoor.Ab
