/- The contracts of the document's answer: numbers and texts read. Own work. -/
import Derived.Test.YtjhnabdcmfjeoaaGreatDoorYQ
import Derived.Test.YtjhnabdcmfjeoaaGreatDoorYP
set_option linter.unusedSimpArgs false
set_option linter.unusedVariables false
namespace Go.Proofs.YtjhnabdcmfjeoaaGreatDoor.Ab
open Go

/-- The place of a number's last byte. -/
def scanN : List UInt8 → Nat → Nat
  | [], i => i
  | c :: r, i => if 10 ≤ i then i else if c.toNat < 128 then i else scanN r (i + 1)
/-- The number of bytes of seven bits, least first. -/
def valN : List UInt8 → Nat
  | [] => 0
  | c :: r => c.toNat % 128 + 128 * valN r
theorem scanN_le : ∀ (r : List UInt8) (i : Nat), i ≤ 10 → i ≤ scanN r i ∧ scanN r i ≤ 10 ∧ scanN r i ≤ i + r.length
  | [], i, h => by simp [scanN, h]
  | c :: r, i, h => by
    simp only [scanN, List.length_cons]
    split
    · omega
    · split
      · omega
      · have := scanN_le r (i + 1) (by omega); omega
theorem scanN_nil (i : Nat) : scanN [] i = i := rfl
theorem scanN_ten (c : UInt8) (r : List UInt8) (i : Nat) (h : 10 ≤ i) : scanN (c :: r) i = i := by simp [scanN, h]
theorem scanN_low (c : UInt8) (r : List UInt8) (i : Nat) (h : c.toNat < 128) : scanN (c :: r) i = i := by simp [scanN, h]
theorem scanN_go (c : UInt8) (r : List UInt8) (i : Nat) (h : ¬ 10 ≤ i) (h2 : ¬ c.toNat < 128) : scanN (c :: r) i = scanN r (i + 1) := by simp [scanN, h, h2]
theorem uintR_scan : ∀ (r : List UInt8) (i acc : Nat), i ≤ 10 → uintR r i acc = if scanN r i = 10 then (0, 0, 3) else if r.length + i = scanN r i then (0, 0, 12) else
    if (scanN r i = 9 ∧ 1 < (r[scanN r i - i]?.getD 0).toNat) ∨ (0 < scanN r i ∧ (r[scanN r i - i]?.getD 0).toNat = 0) then (0, 0, 3) else (acc + valN (r.take (scanN r i - i + 1)) * 2 ^ (7 * i), scanN r i + 1, 0)
  | [], i, acc, h => by
    rw [scanN_nil]
    simp only [uintR, List.length_nil]
    by_cases h10 : i = 10
    · simp [h10]
    · rw [if_pos (by omega), if_neg h10, if_pos (by omega)]
  | c :: r, i, acc, h => by
    simp only [uintR, List.length_cons]
    by_cases h10 : 10 ≤ i
    · have : i = 10 := by omega
      subst this
      rw [scanN_ten c r 10 h10]
      simp
    rw [if_neg h10]
    by_cases hc : c.toNat < 128
    · rw [scanN_low c r i hc, if_pos hc, if_neg (show ¬ i = 10 by omega), if_neg (show ¬ r.length + 1 + i = i by omega)]
      simp only [Nat.sub_self, List.getElem?_cons_zero, Option.getD_some, List.take_succ_cons, List.take_zero, valN]
      by_cases h9 : i = 9 ∧ 1 < c.toNat
      · rw [if_pos h9, if_pos (.inl h9)]
      · rw [if_neg h9]
        by_cases h0 : c.toNat = 0 ∧ 0 < i
        · rw [if_pos h0, if_pos (.inr ⟨h0.2, h0.1⟩)]
        · rw [if_neg h0, if_neg (by omega), Nat.mod_eq_of_lt hc]; simp
    · rw [scanN_go c r i h10 hc, if_neg hc]
      have hle := scanN_le r (i + 1) (by omega)
      have ih := uintR_scan r (i + 1) (acc + (c.toNat - 128) * 2 ^ (7 * i)) (by omega)
      by_cases h9 : i = 9 ∧ 1 < c.toNat
      · rw [if_pos h9, if_pos (by omega)]
      · rw [if_neg h9, ih]
        generalize scanN r (i + 1) = k at hle ⊢
        have e1 : k - i = (k - (i + 1)) + 1 := by omega
        by_cases hk : k = 10
        · rw [if_pos hk, if_pos hk]
        rw [if_neg hk, if_neg hk]
        by_cases hl : r.length + (i + 1) = k
        · rw [if_pos hl, if_pos (show r.length + 1 + i = k by omega)]
        rw [if_neg hl, if_neg (show ¬ r.length + 1 + i = k by omega), e1]
        simp only [List.getElem?_cons_succ, List.take_succ_cons, valN]
        split
        · rfl
        · simp only [Prod.mk.injEq, and_true]
          have : c.toNat % 128 = c.toNat - 128 := by have := c.toNat_lt; omega
          rw [this, show 7 * (i + 1) = 7 + 7 * i by omega, Nat.pow_add, Nat.add_mul, ← Nat.mul_assoc, Nat.mul_comm 128 (valN _)]
          simp; omega
theorem valN_drop : ∀ (l : List UInt8) (m : Nat), valN (l.drop m) ≤ valN l
  | [], m => by simp
  | c :: r, 0 => by simp
  | c :: r, m + 1 => by
    have := valN_drop r m
    simp only [List.drop_succ_cons, valN]; omega

def uintI (r : Nat × Nat × Nat) : AV := .tup [.s (.int .u64 r.1), .s (.int .i64 r.2.1), .s (.int .i64 r.2.2)]
set_option maxRecDepth 20000
theorem refUint_ok (gl : Nat → AV) (b : List UInt8) (o : Option (Nat × Own)) (hb : b.length ≤ 2 ^ 46) : PureA Tryz.prog gl 59 [.lst 1 (bytesA b) o] (uintI (uintD b)) := by
  refine calls_of_code (C := ⟨Tryz.prog, gl, 71, []⟩) (fn := Tryz.f59) rfl rfl rfl (by simp) (vc_sound _ _ _ _ ?_)
  simp [Tryz.f59]
  have hsc := uintR_scan b 0 0 (by omega)
  have hsl := scanN_le b 0 (by omega)
  have hD : uintD b = uintR b 0 0 := rfl
  rw [hsc] at hD
  simp only [Nat.sub_zero, Nat.add_zero, Nat.zero_add, Nat.mul_zero, Nat.pow_zero, Nat.mul_one] at hD
  have hlt64 := uintD_lt b
  generalize hR : uintD b = R at hD hlt64 ⊢
  clear hsc hR
  generalize hK : scanN b 0 = K at hsl hD
  obtain ⟨I, hI⟩ : ∃ I : Nat → Env → AHeap → Prop, I = fun k E H => ∃ (i : Nat), k = 10 - i ∧ i ≤ 10 ∧ E 5 = .s (.int .i64 i) ∧ E 0 = .lst 1 (bytesA b) o ∧ H = [] ∧ i ≤ b.length ∧ scanN (b.drop i) i = K := ⟨_, rfl⟩
  refine W_loopN [] (by decide) I 10 ?_ ?_
  · rw [hI]
    exact ⟨0, rfl, by omega, by simp, by simp [argE], by simp, by omega, by simpa using hK⟩
  · intro k E H hi0
    rw [hI] at hi0
    obtain ⟨i, rfl, hi, h5, h0, rfl, hib, hsk⟩ := hi0
    refine vc_sound _ _ _ _ ?_
    cases hd : b.drop i with
    | nil =>
      have hi' : i = b.length := by have := List.drop_eq_nil_iff.1 hd; omega
      rw [hd, scanN_nil] at hsk
      by_cases h10 : K = 10
      · rw [if_pos h10] at hD
        subst hD
        have hb10 : (b.length : Int) = 10 := by omega
        simp [h5, h0, hi', hb10, uintI]
      · rw [if_neg h10, if_pos (by omega)] at hD
        subst hD
        have hb10 : ¬ (b.length : Int) = 10 := by omega
        simp [h5, h0, hi', hb10, uintI]
    | cons c r =>
      have hlt : i < b.length := by
        have := congrArg List.length hd
        simp at this; omega
      have hg' : b[i]? = some c := by rw [← List.head?_drop, hd]; rfl
      have hg : (bytesA b)[i]? = some (.s (.int .u8 c.toNat)) := by simp [bytesA, hg', byteA]
      have hgi := (List.getElem?_eq_some_iff.1 hg).2
      have wi : IntKind.i64.wrap ((i : Int) + 1) = (i : Int) + 1 := by rw [wrap_i64_in _ (by omega) (by omega)]
      have hc256 : c.toNat < 256 := c.toNat_lt
      have hdr : b.drop (i + 1) = r := by rw [← List.drop_drop, hd]; rfl
      rw [hd] at hsk
      have hltI : (i : Int) < b.length := by omega
      by_cases h10 : 10 ≤ i
      · have : i = 10 := by omega
        subst this
        rw [scanN_ten _ _ _ h10] at hsk
        rw [if_pos hsk.symm] at hD
        subst hD
        simp [h5, h0, hltI, hlt, uintI]
      · have h10' : (i : Int) < 10 := by omega
        by_cases hc : c.toNat < 128
        · rw [scanN_low _ _ _ hc] at hsk
          subst hsk
          have hcI : ¬ (128 : Int) ≤ c.toNat := by omega
          have h10n : ¬ (i : Int) = 10 := by omega
          have hln : ¬ (i : Int) = b.length := by omega
          have h10N : ¬ i = 10 := by omega
          have hlN : ¬ b.length = i := by omega
          rw [if_neg h10N, if_neg hlN, hg'] at hD
          simp only [Option.getD_some] at hD
          by_cases hbad : (i = 9 ∧ 1 < c.toNat) ∨ (0 < i ∧ c.toNat = 0)
          · rw [if_pos hbad] at hD
            subst hD
            rcases hbad with ⟨rfl, h1⟩ | ⟨h1, h2⟩
            · have h1' : (1 : Int) < c.toNat := by omega
              have q1 : (9 : Int) < b.length := by omega
              have q2 : ¬ (9 : Int) = b.length := by omega
              have q3 : ¬ (b.length : Int) ≤ 9 := by omega
              simp [h5, h0, q1, q2, q3, hlt, hgi, hcI, uintI, h1']
            · by_cases h9 : i = 9
              · subst h9
                have q1 : (9 : Int) < b.length := by omega
                have q2 : ¬ (9 : Int) = b.length := by omega
                have q3 : ¬ (b.length : Int) ≤ 9 := by omega
                simp [h5, h0, q1, q2, q3, hlt, hgi, hcI, uintI, h2]
              · have h9' : ¬ (i : Int) = 9 := by omega
                have hi0 : ¬ i = 0 := by omega
                simp [h5, h0, hltI, hlt, h10', hgi, hcI, h10n, hln, uintI, h1, h2, h9', hi0]
          · rw [if_neg hbad] at hD
            subst hD
            simp only at hlt64
            have hTd := valN_drop (b.take (i + 1))
            have hTl : (b.take (i + 1)).length = i + 1 := by simp; omega
            have hTz : valN ((b.take (i + 1)).drop (i + 1)) = 0 := by
              rw [List.drop_eq_nil_iff.2 (by omega)]; rfl
            have hT : ∀ k, k < i + 1 → ∃ d : UInt8, b[k]? = some d ∧ (b.take (i + 1))[k]? = some d ∧ valN ((b.take (i + 1)).drop k) = d.toNat % 128 + 128 * valN ((b.take (i + 1)).drop (k + 1)) ∧ valN ((b.take (i + 1)).drop k) < 2 ^ 64 := fun k hk => by
              have hkb : k < b.length := by omega
              refine ⟨b[k], by simp [hkb], by simp [hk, hkb], ?_, by have := hTd k; omega⟩
              have : (b.take (i + 1)).drop k = b[k] :: (b.take (i + 1)).drop (k + 1) := by
                rw [List.drop_eq_getElem_cons (by omega)]; simp
              rw [this]; rfl
            obtain ⟨J, hJ⟩ : ∃ J : Nat → Env → AHeap → Prop, J = fun m E H => m ≤ i + 1 ∧ E 7 = .s (.int .i64 ((m : Int) - 1)) ∧ E 6 = .s (.int .u64 (valN ((b.take (i + 1)).drop m))) ∧ E 5 = .s (.int .i64 i) ∧ E 0 = .lst 1 (bytesA b) o ∧ H = [] := ⟨_, rfl⟩
            rcases (show (i = 9 ∧ c.toNat = 1) ∨ i = 0 ∨ (0 < i ∧ i < 9 ∧ ¬ c.toNat = 0) by omega) with ⟨rfl, h1⟩ | rfl | ⟨a1, a2, a3⟩
            · have q1 : (9 : Int) < b.length := by omega
              have q2 : ¬ (9 : Int) = b.length := by omega
              have q3 : ¬ (b.length : Int) ≤ 9 := by omega
              simp [h5, h0, hlt, hgi, hcI, h1, q1, q2, q3]
              refine W_loopN [] (by decide) J (9 + 1) ?_ ?_
              · rw [hJ]
                exact ⟨by omega, by simp, by simp [valN], by simp [h5], by simp [h0], rfl⟩
              · intro m E H hj
                rw [hJ] at hj
                obtain ⟨hm, g7, g6, g5, g0, rfl⟩ := hj
                refine vc_sound _ _ _ _ ?_
                cases m with
                | zero =>
                  simp [g7, g6, g5, g0, uintI]
                  first | exact wi | (rw [wrap_i64_in _ (by omega) (by omega)])
                | succ k =>
                  obtain ⟨d, hd2, hdg, hstep, hb1⟩ := hT k (by omega)
                  have hkl : k < b.length := by omega
                  have hge : (0 : Int) ≤ k := by omega
                  have hd256 : d.toNat < 256 := d.toNat_lt
                  have e10 : IntKind.i64.wrap ((k : Int) - 1) = (k : Int) - 1 := wrap_i64_in _ (by omega) (by omega)
                  have hgk : (bytesA b)[k]? = some (.s (.int .u8 d.toNat)) := by simp [bytesA, hd2, byteA]
                  have hgki := (List.getElem?_eq_some_iff.1 hgk).2
                  have e11 : IntKind.u64.wrap (IntKind.u64.wrap ((valN ((b.take (9 + 1)).drop (k + 1)) : Int) * 128) + IntKind.u64.wrap ((d.toNat : Int).tmod 128)) = (valN ((b.take (9 + 1)).drop k) : Int) := by
                    rw [wrap_u64_in (_ * 128) (by omega) (by omega), Int.tmod_eq_emod_of_nonneg (by omega), wrap_u64_in ((d.toNat : Int) % 128) (by omega) (by omega), wrap_u64_in _ (by omega) (by omega)]
                    omega
                  simp [g7, g6, g5, g0, hkl, hgki, e10]
                  refine ⟨k, by omega, ?_⟩
                  rw [hJ]
                  exact ⟨by omega, by simp, by simp; simpa using e11, by simp [g5], by simp [g0], rfl⟩
            · have q2 : ¬ (0 : Int) = b.length := by omega
              simp [h5, h0, hlt, hgi, hcI, q2]
              refine W_loopN [] (by decide) J (0 + 1) ?_ ?_
              · rw [hJ]
                exact ⟨by omega, by simp, by simp [valN], by simp [h5], by simp [h0], rfl⟩
              · intro m E H hj
                rw [hJ] at hj
                obtain ⟨hm, g7, g6, g5, g0, rfl⟩ := hj
                refine vc_sound _ _ _ _ ?_
                cases m with
                | zero =>
                  simp [g7, g6, g5, g0, uintI]
                  first | exact wi | (rw [wrap_i64_in _ (by omega) (by omega)])
                | succ k =>
                  obtain ⟨d, hd2, hdg, hstep, hb1⟩ := hT k (by omega)
                  have hkl : k < b.length := by omega
                  have hge : (0 : Int) ≤ k := by omega
                  have hd256 : d.toNat < 256 := d.toNat_lt
                  have e10 : IntKind.i64.wrap ((k : Int) - 1) = (k : Int) - 1 := wrap_i64_in _ (by omega) (by omega)
                  have hgk : (bytesA b)[k]? = some (.s (.int .u8 d.toNat)) := by simp [bytesA, hd2, byteA]
                  have hgki := (List.getElem?_eq_some_iff.1 hgk).2
                  have e11 : IntKind.u64.wrap (IntKind.u64.wrap ((valN ((b.take (0 + 1)).drop (k + 1)) : Int) * 128) + IntKind.u64.wrap ((d.toNat : Int).tmod 128)) = (valN ((b.take (0 + 1)).drop k) : Int) := by
                    rw [wrap_u64_in (_ * 128) (by omega) (by omega), Int.tmod_eq_emod_of_nonneg (by omega), wrap_u64_in ((d.toNat : Int) % 128) (by omega) (by omega), wrap_u64_in _ (by omega) (by omega)]
                    omega
                  simp [g7, g6, g5, g0, hkl, hgki, e10]
                  refine ⟨k, by omega, ?_⟩
                  rw [hJ]
                  exact ⟨by omega, by simp, by simp; simpa using e11, by simp [g5], by simp [g0], rfl⟩
            · have a1' : ¬ i = 0 := by omega
              have a2' : ¬ (i : Int) = 9 := by omega
              simp [h5, h0, hltI, hlt, h10', hgi, hcI, h10n, hln, a1', a2', a3, a1]
              refine W_loopN [] (by decide) J (i + 1) ?_ ?_
              · rw [hJ]
                exact ⟨by omega, by simp, by simp [valN], by simp [h5], by simp [h0], rfl⟩
              · intro m E H hj
                rw [hJ] at hj
                obtain ⟨hm, g7, g6, g5, g0, rfl⟩ := hj
                refine vc_sound _ _ _ _ ?_
                cases m with
                | zero =>
                  simp [g7, g6, g5, g0, uintI]
                  first | exact wi | (rw [wrap_i64_in _ (by omega) (by omega)])
                | succ k =>
                  obtain ⟨d, hd2, hdg, hstep, hb1⟩ := hT k (by omega)
                  have hkl : k < b.length := by omega
                  have hge : (0 : Int) ≤ k := by omega
                  have hd256 : d.toNat < 256 := d.toNat_lt
                  have e10 : IntKind.i64.wrap ((k : Int) - 1) = (k : Int) - 1 := wrap_i64_in _ (by omega) (by omega)
                  have hgk : (bytesA b)[k]? = some (.s (.int .u8 d.toNat)) := by simp [bytesA, hd2, byteA]
                  have hgki := (List.getElem?_eq_some_iff.1 hgk).2
                  have e11 : IntKind.u64.wrap (IntKind.u64.wrap ((valN ((b.take (i + 1)).drop (k + 1)) : Int) * 128) + IntKind.u64.wrap ((d.toNat : Int).tmod 128)) = (valN ((b.take (i + 1)).drop k) : Int) := by
                    rw [wrap_u64_in (_ * 128) (by omega) (by omega), Int.tmod_eq_emod_of_nonneg (by omega), wrap_u64_in ((d.toNat : Int) % 128) (by omega) (by omega), wrap_u64_in _ (by omega) (by omega)]
                    omega
                  simp [g7, g6, g5, g0, hkl, hgki, e10]
                  refine ⟨k, by omega, ?_⟩
                  rw [hJ]
                  exact ⟨by omega, by simp, by simp; simpa using e11, by simp [g5], by simp [g0], rfl⟩
        · rw [scanN_go _ _ _ h10 hc] at hsk
          have hcI : (128 : Int) ≤ c.toNat := by omega
          simp [h5, h0, hltI, hlt, h10', hgi, hcI, wi]
          refine ⟨10 - (i + 1), by omega, ?_⟩
          rw [hI]
          exact ⟨i + 1, rfl, by omega, by simp, by simp [h0], by simp, by omega, by rw [hdr]; exact hsk⟩

def textI (r : List UInt8 × Nat × Nat) : AV := .tup [.s (strV r.1), .s (.int .i64 r.2.1), .s (.int .i64 r.2.2)]
theorem refText_ok (gl : Nat → AV) (b : List UInt8) (o : Option (Nat × Own)) (most : Int) (h1 : -9223372036854775808 ≤ most) (h2 : most ≤ 9223372036854775807) (hb : b.length ≤ 2 ^ 46) :
    PureA Tryz.prog gl 60 [.lst 1 (bytesA b) o, .s (.int .i64 most)] (textI (textD b most)) := by
  refine calls_of_code (C := ⟨Tryz.prog, gl, 47, []⟩) (fn := Tryz.f60) rfl rfl rfl (by simp) (vc_sound _ _ _ _ ?_)
  by_cases h : most < 0
  · simp [Tryz.f60, h, textD, textI, strV]
  simp [Tryz.f60, h]
  refine (refUint_ok gl b o hb).use ?_
  have hlt := uintD_lt b
  have hok := uintD_ok b
  have hbad := uintD_bad b
  unfold textD
  generalize uintD b = r at hlt hok hbad ⊢
  obtain ⟨n, k, e⟩ := r
  simp only at hlt hok hbad
  simp [uintI]
  by_cases he : e = 0
  · subst he
    obtain ⟨k1, k2, k3⟩ := hok rfl
    have w1 : IntKind.u64.wrap most = most := wrap_u64_in _ (by omega) (by omega)
    have w2 : IntKind.u64.wrap (IntKind.i64.wrap ((b.length : Int) - k)) = (b.length : Int) - k := by rw [wrap_i64_in _ (by omega) (by omega), wrap_u64_in _ (by omega) (by omega)]
    simp [w1, w2]
    by_cases c1 : most < (n : Int)
    · simp [c1, textI, strV, show ¬ most < 0 by omega]
      try omega
    · by_cases c2 : (b.length : Int) - k < n
      · simp [c1, c2, textI, strV, show ¬ most < 0 by omega, show b.length - k < n by omega]
        try omega
      · have w3 : IntKind.i64.wrap ((k : Int) + IntKind.i64.wrap (n : Int)) = (k : Int) + n := by rw [wrap_i64_in (n : Int) (by omega) (by omega), wrap_i64_in _ (by omega) (by omega)]
        have ht : ((k : Int) + n).toNat = k + n := by omega
        simp [c1, c2, textI, show ¬ most < 0 by omega, show ¬ b.length - k < n by omega, w3, ht]
        intro _ _
        exact ⟨by omega, by rw [List.drop_take]; simp⟩
  · simp [he, textI, strV, show ¬ most < 0 by omega]

def intI (r : Int × Nat × Nat) : AV := .tup [.s (.int .i64 r.1), .s (.int .i64 r.2.1), .s (.int .i64 r.2.2)]
theorem refInt_ok (gl : Nat → AV) (b : List UInt8) (o : Option (Nat × Own)) (hb : b.length ≤ 2 ^ 46) : PureA Tryz.prog gl 61 [.lst 1 (bytesA b) o] (intI (intD b)) := by
  refine calls_of_code (C := ⟨Tryz.prog, gl, 29, []⟩) (fn := Tryz.f61) rfl rfl rfl (by simp) (vc_sound _ _ _ _ ?_)
  simp [Tryz.f61]
  refine (refUint_ok gl b o hb).use ?_
  have hlt := uintD_lt b
  unfold intI intD unzig
  generalize uintD b = r at hlt ⊢
  obtain ⟨n, k, e⟩ := r
  simp only at hlt ⊢
  simp [uintI]
  rw [Int.tmod_eq_emod_of_nonneg (by omega), wrap_u64_in _ (by omega) (by omega), wrap_i64_in ((n : Int) / 2) (by omega) (by omega), wrap_i64_in (-((n : Int) / 2)) (by omega) (by omega), wrap_i64_in _ (by omega) (by omega)]
  constructor
  · intro h; rw [if_neg (by omega)]
  · intro h; rw [if_pos (by omega)]
end Go.Proofs.YtjhnabdcmfjeoaaGreatDoor.Ab
/- The contracts of the document's answer: the reading of a number, of a text. Own work. -/
set_option linter.unusedSimpArgs false
set_option linter.unusedVariables false
namespace Go.Proofs.YtjhnabdcmfjeoaaGreatDoor.Ab
open Go

def rdV (s : Rd) : AV := .agg [.lst 1 (bytesA s.1) none, .s (.bool s.2)]
theorem sub_rdBad : Sub (.agg [.s (.slice none 0 0), .s (.bool true)]) (rdV ([], true)) := SubC.agg (SubC.cons (Sub.nil _) (SubC.cons (Sub.refl _) SubC.nil))

set_option maxRecDepth 20000
theorem readUint_ok (gl : Nat → AV) (s : Rd) (most : Int) (h0 : 0 ≤ most) (h1 : most ≤ 9223372036854775807) (hb : s.1.length ≤ 2 ^ 46) :
    PureA Tryz.prog gl 33 [rdV s, .s (.int .u64 most)] (.tup [rdV (rdU s most).1, .s (.int .i64 (rdU s most).2)]) := by
  refine PureA.ofSub ?_
  refine calls_of_code (C := ⟨Tryz.prog, gl, 35, []⟩) (fn := Tryz.f33) rfl rfl rfl (by simp) (vc_sound _ _ _ _ ?_)
  obtain ⟨bs, bad⟩ := s
  simp only at hb
  simp [Tryz.f33, rdV]
  intro b0
  refine (refUint_ok gl bs none hb).use ?_
  have hlt := uintD_lt bs
  have hok := uintD_ok bs
  unfold rdU rdUint
  simp only
  generalize uintD bs = r at hlt hok ⊢
  obtain ⟨n, k, e⟩ := r
  simp only at hlt hok
  simp [uintI]
  cases bad with
  | true =>
    simp [nrm]
    exact Sub.tup2 sub_rdBad (Sub.refl _)
  | false =>
    by_cases he : e = 0
    · subst he
      obtain ⟨k1, k2, k3⟩ := hok rfl
      by_cases hm : most < (n : Int)
      · have hm' : ¬ (n : Int) ≤ most := by omega
        simp [hm, hm', nrm]
        exact Sub.tup2 sub_rdBad (Sub.refl _)
      · have w : IntKind.i64.wrap (n : Int) = n := wrap_i64_in _ (by omega) (by omega)
        simp [hm, w, nrm]
        exact fun _ => ⟨k2, Sub.refl _⟩
    · simp [he, nrm]
      exact Sub.tup2 sub_rdBad (Sub.refl _)

theorem readText_ok (gl : Nat → AV) (s : Rd) (hb : s.1.length ≤ 2 ^ 46) :
    PureA Tryz.prog gl 34 [rdV s] (.tup [rdV (rdT s).1, .s (strV (rdT s).2)]) := by
  refine PureA.ofSub ?_
  refine calls_of_code (C := ⟨Tryz.prog, gl, 30, []⟩) (fn := Tryz.f34) rfl rfl rfl (by simp) (vc_sound _ _ _ _ ?_)
  obtain ⟨bs, bad⟩ := s
  simp only at hb
  simp [Tryz.f34, rdV]
  intro b0
  refine (refText_ok gl bs none bs.length (by omega) (by omega) hb).use ?_
  have hle := textD_le bs bs.length
  unfold rdT rdText
  simp only
  generalize textD bs bs.length = r at hle ⊢
  obtain ⟨t, k, e⟩ := r
  simp only at hle
  simp [textI, strV]
  cases bad with
  | true =>
    simp [nrm]
    exact Sub.tup2 sub_rdBad (Sub.refl _)
  | false =>
    by_cases he : e = 0
    · subst he
      have hk := hle rfl
      simp [nrm]
      exact ⟨hk, Sub.refl _⟩
    · simp [he, nrm]
      exact Sub.tup2 sub_rdBad (Sub.refl _)
end Go.Proofs.YtjhnabdcmfjeoaaGreatDoor.Ab
/- The contracts of the document's answer: rows by order decoded. Own work. -/
set_option linter.unusedSimpArgs false
set_option linter.unusedVariables false
namespace Go.Proofs.YtjhnabdcmfjeoaaGreatDoor.Ab
open Go

theorem noZ_get : ∀ (r : List UInt8) (j : Nat), j < (noZ r).length → ∃ d, r[j]? = some d ∧ ¬ d.toNat = 0
  | [], j, h => by simp [noZ] at h
  | c :: r, j, h => by
    simp only [noZ] at h
    split at h
    · simp at h
    · rename_i hc
      cases j with
      | zero => exact ⟨c, rfl, hc⟩
      | succ j => exact noZ_get r j (by simpa using h)
theorem noZ_end : ∀ (r : List UInt8), r.length = (noZ r).length ∨ ∃ d, r[(noZ r).length]? = some d ∧ d.toNat = 0
  | [] => by simp [noZ]
  | c :: r => by
    simp only [noZ]
    split
    · rename_i hc; exact .inr ⟨c, rfl, hc⟩
    · rcases noZ_end r with h | ⟨d, h1, h2⟩
      · left; simp [h]
      · exact .inr ⟨d, by simpa using h1, h2⟩
theorem noZ_take : ∀ (r : List UInt8), r.take (noZ r).length = noZ r
  | [] => by simp [noZ]
  | c :: r => by
    have := noZ_take r
    simp only [noZ]
    split
    · simp
    · simp [this]

set_option maxRecDepth 20000
theorem refDecode_ok (gl : Nat → AV) (s : List UInt8) (hs : s.length ≤ 2 ^ 36) :
    PureA Tryz.prog gl 35 [.s (strV s)] (.tup [.lst 4 (vsA (ordD s).1) none, .s (.int .i64 (ordD s).2)]) := by
  refine PureA.ofSub ?_
  refine calls_of_code (C := ⟨Tryz.prog, gl, 105, []⟩) (fn := Tryz.f35) rfl rfl rfl (by simp) (vc_sound _ _ _ _ ?_)
  simp [Tryz.f35]
  refine W_nilOwn 4 63 4 1000 (by simp) ?_
  obtain ⟨I, hI⟩ : ∃ I : Nat → Env → AHeap → Prop, I = fun k E H => ∃ (i : Nat) (acc : List V), k = s.length - i ∧ i ≤ s.length + 1 ∧ E 5 = .s (.int .i64 i) ∧ E 0 = .s (strV s) ∧ ownAt E H 4 63 4 (vsA acc) ∧ acc ++ looseV (s.drop i) = looseV s ∧ acc.length ≤ i := ⟨_, rfl⟩
  refine W_loop I s.length ?_ ?_
  · rw [hI]
    exact ⟨0, [], rfl, by omega, by simp, by simp [argE], ⟨1000, .nil, by simp [vsA], by simp⟩, by simp, by simp⟩
  · intro k E H hi0
    rw [hI] at hi0
    obtain ⟨i, acc, rfl, hi, h5, h0, ho, hx, hacc⟩ := hi0
    refine W_norm 4 1000 ho fun q => vc_sound _ _ _ _ ?_
    simp only [strV] at h0
    cases hd : s.drop i with
    | nil =>
      have hi' : ¬ (i : Int) < s.length := by have := List.drop_eq_nil_iff.1 hd; omega
      rw [hd, looseV_nil, List.append_nil] at hx
      have hL := ordL_eq s (by omega)
      simp only [ordL, ← hx] at hL
      have hfits := looseV_fits s.length s (by omega) (by omega)
      have hlen := looseV_len s.length s (by omega)
      rw [← hx] at hfits hlen
      simp [h5, h0, hi']
      refine (refEncode_ok gl acc (some (1000, q)) hfits (by omega)).use ?_
      rw [← hL]
      generalize ordE acc = R
      obtain ⟨b, e⟩ := R
      by_cases he : e = 0
      · subst he
        by_cases hb : b = s
        · subst hb
          simp [h5, h0, hi', strV]
          exact Sub.tup2 (Sub.drop _ _ _) (Sub.refl _)
        · simp [h5, h0, hi', strV, hb]
          exact Sub.tup2 (Sub.nil _) (Sub.refl _)
      · simp [h5, h0, hi', strV, he]
        exact Sub.tup2 (Sub.nil _) (Sub.refl _)
    | cons c r =>
      have hlt : i < s.length := by have := congrArg List.length hd; simp at this; omega
      have hltI : (i : Int) < s.length := by omega
      have hg : s[i]? = some c := by rw [← List.head?_drop, hd]; rfl
      have hgi : s[i]'hlt = c := (List.getElem?_eq_some_iff.1 hg).2
      have hdr : s.drop (i + 1) = r := by rw [← List.drop_drop, hd]; rfl
      have hrl : r.length + i + 1 = s.length := by have := congrArg List.length hd; simp at this; omega
      have hc : c.toNat < 256 := c.toNat_lt
      have wi : IntKind.i64.wrap ((i : Int) + 1) = (i : Int) + 1 := wrap_i64_in _ (by omega) (by omega)
      rw [hd, looseV_cons] at hx
      rcases (show c.toNat = 2 ∨ c.toNat = 3 ∨ c.toNat = 4 ∨ (¬ c.toNat = 2 ∧ ¬ c.toNat = 3 ∧ ¬ c.toNat = 4) by omega) with h | h | h | ⟨n2, n3, n4⟩
      · have e1 : IntKind.i64.wrap (IntKind.i64.wrap 2 - 1) = 1 := by decide
        have hl1 : loose1 (c :: r) = (⟨1, (numB (r.take 8) 0 : Int) - 9223372036854775808, [], false⟩, r.drop 8) := by simp [loose1, h]
        rw [hl1] at hx
        simp only at hx
        simp [h5, h0, hlt, hltI, hgi, h, e1, wi]
        intro b
        obtain ⟨J, hJ⟩ : ∃ J : Nat → Env → AHeap → Prop, J = fun m E H => ∃ (j n : Nat), m = 8 - j ∧ j ≤ 8 ∧ j ≤ r.length ∧ E 8 = .s (.int .i64 j) ∧ E 7 = .s (.int .u64 n) ∧ E 6 = .ptr 6 b 0 ∧ E 5 = .s (.int .i64 ((i : Int) + 1 + j)) ∧ E 0 = .s (strV s) ∧ E 4 = .lst 4 (vsA acc) (some (1000, q)) ∧
          H = [(1000, .own 63 4 acc.length q), (6, .box b 63 [AV.s (.int .i64 1), AV.s (.int .i64 0), AV.s (.string ⟨#[]⟩), AV.s (.bool false)])] ∧ n < 256 ^ j ∧ numB ((r.take 8).drop j) n = numB (r.take 8) 0 := ⟨_, rfl⟩
        refine W_loopN [1000, 6] (by decide) J 8 ?_ ?_
        · rw [hJ]
          exact ⟨0, 0, rfl, by omega, by omega, by simp, by simp, by simp, by simp, by simp [h0, strV], by simp, by simp, by simp, by simp⟩
        · intro m E H hj
          rw [hJ] at hj
          obtain ⟨j, n, rfl, hj8, hjr, g8, g7, g6, g5, g0, g4, rfl, hn, hnb⟩ := hj
          refine vc_sound _ _ _ _ ?_
          simp only [strV] at g0
          by_cases hend : j = 8 ∨ j = r.length
          · have hnn : n = numB (r.take 8) 0 := by
              rw [← hnb]
              have : (r.take 8).drop j = [] := List.drop_eq_nil_iff.2 (by simp; omega)
              rw [this]; rfl
            have hn64 : n < 2 ^ 64 := by
              have : (256 : Nat) ^ j ≤ 256 ^ 8 := Nat.pow_le_pow_right (by omega) (by omega)
              have e : (256 : Nat) ^ 8 = 2 ^ 64 := rfl
              omega
            have e2 := unsign n hn64
            have key : ∀ (E' : Env) (q' : Own) (H' : AHeap), E' 5 = .s (.int .i64 ((i : Int) + 1 + j)) → E' 0 = .s (strV s) → E' 4 = .lst 4 (vsA (acc ++ [⟨1, (n : Int) - 9223372036854775808, [], false⟩])) (some (91, q')) → find 91 H' = some (.own 63 4 (vsA (acc ++ [⟨1, (n : Int) - 9223372036854775808, [], false⟩])).length q') → ∃ m, m < s.length - i ∧ I m E' H' := fun E' q' H' a5 a0 a4 af => by
              refine ⟨s.length - (i + 1 + j), by omega, ?_⟩
              rw [hI]
              refine ⟨i + 1 + j, acc ++ [⟨1, (n : Int) - 9223372036854775808, [], false⟩], rfl, by omega, by rw [a5]; simp, a0, ⟨91, q', a4, af⟩, ?_, by simp; omega⟩
              rw [← hx, ← hnn]
              have : s.drop (i + 1 + j) = r.drop 8 := by
                rw [← List.drop_drop, hdr]
                rcases hend with h | h
                · rw [h]
                · rw [h, List.drop_length]; symm; exact List.drop_eq_nil_iff.2 (by omega)
              rw [this]; simp
            by_cases h8 : j = 8
            · subst h8
              simp [g8, g7, g6, g5, g0, g4, e2]
              refine ⟨by decide, by omega, by omega, fun q' => ?_⟩
              exact key _ q' _ (by simp [g5]) (by simp [g0, strV]) (by simp [vsA, vA, strV]) (by simp)
            · have h8' : (j : Int) < 8 := by omega
              have hjl : ¬ (i : Int) + 1 + j < s.length := by omega
              simp [g8, g7, g6, g5, g0, g4, e2, h8', hjl]
              refine ⟨by decide, by omega, by omega, fun q' => ?_⟩
              exact key _ q' _ (by simp [g5]) (by simp [g0, strV]) (by simp [vsA, vA, strV]) (by simp)
          · have h8' : (j : Int) < 8 := by omega
            have hjl : (i : Int) + 1 + j < s.length := by omega
            have hjr' : j < r.length := by omega
            obtain ⟨d, hd2⟩ : ∃ d, r[j]? = some d := ⟨r[j], by simp [hjr']⟩
            have hgd : s[i + 1 + j]? = some d := by rw [← hd2, ← hdr]; simp
            have hgdi := (List.getElem?_eq_some_iff.1 hgd).2
            have hd256 : d.toNat < 256 := d.toNat_lt
            have hn56 : n < 2 ^ 56 := by
              have : (256 : Nat) ^ j ≤ 256 ^ 7 := Nat.pow_le_pow_right (by omega) (by omega)
              have e : (256 : Nat) ^ 7 = 2 ^ 56 := rfl
              omega
            have e3 : IntKind.u64.wrap (IntKind.u64.wrap ((n : Int) * 256) + IntKind.u64.wrap (d.toNat : Int)) = ((n * 256 + d.toNat : Nat) : Int) := by
              rw [wrap_u64_in ((n : Int) * 256) (by omega) (by omega), wrap_u64_in (d.toNat : Int) (by omega) (by omega), wrap_u64_in _ (by omega) (by omega)]; simp
            have e4 : IntKind.i64.wrap ((i : Int) + 1 + j + 1) = (i : Int) + 1 + j + 1 := wrap_i64_in _ (by omega) (by omega)
            have e5 : IntKind.i64.wrap ((j : Int) + 1) = (j : Int) + 1 := wrap_i64_in _ (by omega) (by omega)
            have e6 : ((i : Int) + 1 + j).toNat = i + 1 + j := by omega
            have hge : (0 : Int) ≤ (i : Int) + 1 + j := by omega
            simp [g8, g7, g6, g5, g0, g4, h8', hjl, e4, e5, e6, hge, hgd, hgdi]
            refine ⟨8 - (j + 1), by omega, ?_⟩
            rw [hJ]
            have hnb2 : numB ((r.take 8).drop (j + 1)) (n * 256 + d.toNat) = numB (r.take 8) 0 := by
              rw [← hnb]
              have hlj : j < (r.take 8).length := by simp; omega
              rw [List.drop_eq_getElem_cons hlj]
              have : (r.take 8)[j] = d := by
                have : (r.take 8)[j]? = some d := by rw [List.getElem?_take_of_lt (by omega)]; exact hd2
                exact (List.getElem?_eq_some_iff.1 this).2
              rw [this]; rfl
            have hn2 : n * 256 + d.toNat < 256 ^ (j + 1) := by rw [Nat.pow_succ]; omega
            exact ⟨j + 1, n * 256 + d.toNat, rfl, by omega, by omega, by simp, by simp; simpa using e3, by simp [g6], by simp; omega, by simp [g0, strV], by simp [g4], rfl, hn2, hnb2⟩
      · have e1 : IntKind.i64.wrap (IntKind.i64.wrap 3 - 1) = 2 := by decide
        have hl1 : loose1 (c :: r) = (⟨2, 0, noZ r, false⟩, r.drop ((noZ r).length + 1)) := by simp [loose1, h]
        rw [hl1] at hx
        simp only at hx
        have hnz := noZ_len r
        simp [h5, h0, hlt, hltI, hgi, h, e1, wi]
        intro b
        obtain ⟨J, hJ⟩ : ∃ J : Nat → Env → AHeap → Prop, J = fun m E H => ∃ (j : Nat), m = (noZ r).length - j ∧ j ≤ (noZ r).length ∧ E 9 = .s (.int .i64 ((i : Int) + 1)) ∧ E 6 = .ptr 6 b 0 ∧ E 5 = .s (.int .i64 ((i : Int) + 1 + j)) ∧ E 0 = .s (strV s) ∧ E 4 = .lst 4 (vsA acc) (some (1000, q)) ∧
          H = [(1000, .own 63 4 acc.length q), (6, .box b 63 [AV.s (.int .i64 2), AV.s (.int .i64 0), AV.s (.string ⟨#[]⟩), AV.s (.bool false)])] := ⟨_, rfl⟩
        refine W_loopN [1000, 6] (by decide) J (noZ r).length ?_ ?_
        · rw [hJ]
          exact ⟨0, rfl, by omega, by simp, by simp, by simp, by simp [h0, strV], by simp, by simp⟩
        · intro m E H hj
          rw [hJ] at hj
          obtain ⟨j, rfl, hjl, g9, g6, g5, g0, g4, rfl⟩ := hj
          refine vc_sound _ _ _ _ ?_
          simp only [strV] at g0
          have e4 : IntKind.i64.wrap ((i : Int) + 1 + j + 1) = (i : Int) + 1 + j + 1 := wrap_i64_in _ (by omega) (by omega)
          have e6 : ((i : Int) + 1 + j).toNat = i + 1 + j := by omega
          have e7 : ((i : Int) + 1).toNat = i + 1 := by omega
          have hge : (0 : Int) ≤ (i : Int) + 1 + j := by omega
          have hge1 : (0 : Int) ≤ (i : Int) + 1 := by omega
          by_cases hlast : j = (noZ r).length
          · have htx : (s.drop (i + 1)).take j = noZ r := by rw [hdr, hlast, noZ_take]
            have htx2 : (s.take (i + 1 + j)).drop (i + 1) = noZ r := by rw [List.drop_take, ← htx]; congr 1; omega
            have key : ∀ (E' : Env) (q' : Own) (H' : AHeap), E' 5 = .s (.int .i64 ((i : Int) + 1 + j + 1)) → E' 0 = .s (strV s) → E' 4 = .lst 4 (vsA (acc ++ [⟨2, 0, noZ r, false⟩])) (some (91, q')) → find 91 H' = some (.own 63 4 (vsA (acc ++ [⟨2, 0, noZ r, false⟩])).length q') → ∃ m, m < s.length - i ∧ I m E' H' := fun E' q' H' a5 a0 a4 af => by
              refine ⟨s.length - (i + 1 + j + 1), by omega, ?_⟩
              rw [hI]
              refine ⟨i + 1 + j + 1, acc ++ [⟨2, 0, noZ r, false⟩], rfl, by omega, by rw [a5]; simp, a0, ⟨91, q', a4, af⟩, ?_, by simp; omega⟩
              rw [← hx]
              have : s.drop (i + 1 + j + 1) = r.drop ((noZ r).length + 1) := by
                rw [show i + 1 + j + 1 = (i + 1) + (j + 1) by omega, ← List.drop_drop, hdr, hlast]
              rw [this]; simp
            rcases noZ_end r with hz | ⟨d, hz1, hz2⟩
            · have hjl : ¬ (i : Int) + 1 + j < s.length := by omega
              simp [g9, g6, g5, g0, g4, hjl, e4, e6, e7, hge, hge1]
              refine ⟨⟨by omega, by omega⟩, by decide, by omega, by omega, fun q' => ?_⟩
              exact key _ q' _ (by simp) (by simp [g0, strV]) (by simp [vsA, vA, strV, htx2]) (by simp)
            · have hjr : j < r.length := by rw [hlast]; exact (List.getElem?_eq_some_iff.1 hz1).1
              have hjl : (i : Int) + 1 + j < s.length := by omega
              have hgd : s[i + 1 + j]? = some d := by rw [hlast, ← hz1, ← hdr]; simp
              have hgdi := (List.getElem?_eq_some_iff.1 hgd).2
              simp [g9, g6, g5, g0, g4, hjl, e4, e6, e7, hge, hge1, hgd, hgdi, hz2]
              refine ⟨⟨by omega, by omega⟩, by decide, by omega, by omega, fun q' => ?_⟩
              exact key _ q' _ (by simp) (by simp [g0, strV]) (by simp [vsA, vA, strV, htx2]) (by simp)
          · obtain ⟨d, hd2, hdz⟩ := noZ_get r j (by omega)
            have hjr : j < r.length := (List.getElem?_eq_some_iff.1 hd2).1
            have hjl : (i : Int) + 1 + j < s.length := by omega
            have hgd : s[i + 1 + j]? = some d := by rw [← hd2, ← hdr]; simp
            have hgdi := (List.getElem?_eq_some_iff.1 hgd).2
            simp [g9, g6, g5, g0, g4, hjl, e4, e6, hge, hgd, hgdi, hdz]
            refine ⟨(noZ r).length - (j + 1), by omega, ?_⟩
            rw [hJ]
            exact ⟨j + 1, rfl, by omega, by simp [g9], by simp [g6], by simp; omega, by simp [g0, strV], by simp [g4], rfl⟩
      · have e1 : IntKind.i64.wrap (IntKind.i64.wrap 4 - 1) = 3 := by decide
        have hl1 : loose1 (c :: r) = (⟨3, 0, [], decide ((r[0]?).any fun d => d.toNat = 1)⟩, r.drop 1) := by simp [loose1, h]
        rw [hl1] at hx
        simp only at hx
        have w2 : IntKind.i64.wrap ((i : Int) + 1 + 1) = (i : Int) + 2 := wrap_i64_in _ (by omega) (by omega)
        have hd2 : s.drop (i + 2) = r.drop 1 := by rw [show i + 2 = (i + 1) + 1 by omega, ← List.drop_drop, hdr]
        have hge1 : (0 : Int) ≤ (i : Int) + 1 := by omega
        cases r with
        | nil =>
          have hn : ¬ (i : Int) + 1 < s.length := by simp at hrl; omega
          simp [h5, h0, hlt, hltI, hgi, h, e1, wi, hn, w2]
          refine fun b => ⟨by decide, by omega, by omega, fun q' => ⟨s.length - (i + 2), by omega, ?_⟩⟩
          rw [hI]
          exact ⟨i + 2, acc ++ [⟨3, 0, [], false⟩], rfl, by omega, by simp, by simp [h0, strV], ⟨91, q', by simp [vsA, vA, strV], by simp⟩, by rw [hd2, ← hx]; simp, by simp; omega⟩
        | cons d r2 =>
          have hn : (i : Int) + 1 < s.length := by simp at hrl; omega
          have hg1 : s[i + 1]? = some d := by
            have : (s.drop (i + 1))[0]? = some d := by rw [hdr]; rfl
            simpa using this
          have hg1i := (List.getElem?_eq_some_iff.1 hg1).2
          have hdec : decide ((d.toNat : Int) = 1) = decide (d.toNat = 1) := by
            rw [decide_eq_decide]; omega
          simp [h5, h0, hlt, hltI, hgi, h, e1, wi, hn, w2, hge1, hg1, hdec]
          refine fun b => ⟨by decide, by omega, by omega, fun q' => ⟨s.length - (i + 2), by omega, ?_⟩⟩
          rw [hI]
          exact ⟨i + 2, acc ++ [⟨3, 0, [], decide (d.toNat = 1)⟩], rfl, by omega, by simp, by simp [h0, strV], ⟨91, q', by simp [vsA, vA, strV], by simp⟩, by rw [hd2, ← hx]; simp, by simp; omega⟩
      · have e1 : IntKind.i64.wrap (IntKind.i64.wrap (c.toNat : Int) - 1) = (c.toNat : Int) - 1 := by rw [wrap_i64_in (c.toNat : Int) (by omega) (by omega), wrap_i64_in _ (by omega) (by omega)]
        have k1 : ¬ (c.toNat : Int) - 1 = 1 := by omega
        have k2 : ¬ (c.toNat : Int) - 1 = 2 := by omega
        have k3 : ¬ (c.toNat : Int) - 1 = 3 := by omega
        have hl1 : loose1 (c :: r) = (⟨(c.toNat : Int) - 1, 0, [], false⟩, r) := by simp [loose1, n2, n3, n4]
        rw [hl1] at hx
        simp only at hx
        simp [h5, h0, hlt, hltI, hgi, e1, k1, k2, k3, wi]
        refine fun b => ⟨by decide, by omega, by omega, fun q' => ⟨s.length - (i + 1), by omega, ?_⟩⟩
        rw [hI]
        exact ⟨i + 1, acc ++ [⟨(c.toNat : Int) - 1, 0, [], false⟩], rfl, by omega, by simp, by simp [h0, strV], ⟨91, q', by simp [vsA, vA, strV], by simp⟩, by rw [hdr, ← hx]; simp, by simp; omega⟩
end Go.Proofs.YtjhnabdcmfjeoaaGreatDoor.Ab
/- The contracts of the document's answer: rows decoded. Own work. -/
set_option linter.unusedSimpArgs false
set_option linter.unusedVariables false
namespace Go.Proofs.YtjhnabdcmfjeoaaGreatDoor.Ab
open Go

theorem rl1_le (kind : Int) (b : List UInt8) : (rl1 kind b).2 ≤ b.length + 1 := by
  have h1 := uintD_ok b
  have h2 := uintD_bad b
  have h3 := textD_le b 4096
  unfold rl1
  split
  · simp only [intD]
    by_cases h : (uintD b).2.2 = 0
    · have := h1 h; omega
    · have := h2 h; omega
  · split
    · simp only
      by_cases h : (textD b 4096).2.2 = 0
      · have := h3 h; omega
      · have : (textD b 4096).2.1 = 0 := by
          unfold textD at h ⊢
          split
          · rfl
          · split
            · rfl
            · split
              · rfl
              · split
                · rfl
                · rename_i a1 a2 a3 a4; rw [if_neg a1, if_neg a2, if_neg a3, if_neg a4] at h; exact absurd rfl h
        omega
    · split
      · simp
      · simp

set_option maxRecDepth 20000
theorem refRowDecode_ok (gl : Nat → AV) (t : Tb) (s : List UInt8) (o : Option (Nat × Own)) (hs : s.length ≤ 2 ^ 36) (hc : t.cols.length ≤ 2 ^ 30) (hk : ∀ c ∈ t.cols, -9223372036854775808 ≤ c.kind ∧ c.kind ≤ 9223372036854775807) :
    PureA Tryz.prog gl 36 [tA t, .lst 1 (bytesA s) o] (.tup [.lst 4 (vsA (rowD t s).1) none, .s (.int .i64 (rowD t s).2)]) := by
  refine PureA.ofSub ?_
  refine calls_of_code (C := ⟨Tryz.prog, gl, 104, []⟩) (fn := Tryz.f36) rfl rfl rfl (by simp) (vc_sound _ _ _ _ ?_)
  simp [Tryz.f36, tA]
  refine W_nilOwn 6 63 4 1000 (by simp) ?_
  obtain ⟨I, hI⟩ : ∃ I : Nat → Env → AHeap → Prop, I = fun k E H => ∃ (i f : Nat) (acc : List V), k = t.cols.length - i ∧ i ≤ t.cols.length ∧ f ≤ s.length + 1 ∧ E 8 = .s (.int .i64 i) ∧ E 7 = .s (.int .i64 f) ∧ E 2 = .rp [.s (strV t.name), .lst 4 (csA t.cols) none] ∧ E 1 = .lst 1 (bytesA s) o ∧ ownAt E H 6 63 4 (vsA acc) ∧
    acc ++ rlR (t.cols.drop i) (s.drop f) = rlR t.cols s ∧ acc.length ≤ i := ⟨_, rfl⟩
  refine W_loop I t.cols.length ?_ ?_
  · rw [hI]
    exact ⟨0, 0, [], rfl, by omega, by omega, by simp, by simp, by simp [strV], by simp [argE], ⟨1000, .nil, by simp [vsA], by simp⟩, by simp, by simp⟩
  · intro k E H hi0
    rw [hI] at hi0
    obtain ⟨i, f, acc, rfl, hi, hf, h8, h7, h2, h1, ho, hx, hacc⟩ := hi0
    refine W_norm 6 1000 ho fun q => vc_sound _ _ _ _ ?_
    simp only [strV] at h2
    by_cases hend : t.cols.drop i = [] ∨ s.drop f = []
    · have hx' : acc = rlR t.cols s := by
        rw [← hx]
        have : rlR (t.cols.drop i) (s.drop f) = [] := by
          rcases hend with h | h
          · rw [h]; rfl
          · rw [h]; cases t.cols.drop i <;> rfl
        rw [this]; simp
      have hL := rowL_eq t s (by omega) hk
      rw [← hx'] at hL
      have hfits := rlR_fits t.cols s (by omega) hk
      have hlen := rlR_len t.cols s
      rw [← hx'] at hfits hlen
      have he := refRowEncode_ok gl t acc (some (1000, q)) hfits (by omega) hc
      simp only [tA, strV] at he
      have fin : ∀ (z : Env), True := fun _ => trivial
      by_cases hi' : (i : Int) < t.cols.length
      · have hf' : ¬ (f : Int) < s.length := by
          rcases hend with h | h
          · have := List.drop_eq_nil_iff.1 h; omega
          · have := List.drop_eq_nil_iff.1 h; omega
        simp [h8, h7, h2, h1, hi', hf']
        refine he.use ?_
        rw [← hL]
        generalize rowE t acc = R
        obtain ⟨b, e⟩ := R
        by_cases he0 : e = 0
        · subst he0
          by_cases hb : b = s
          · subst hb
            simp [h8, h7, h2, h1]
            exact Sub.tup2 (Sub.drop _ _ _) (Sub.refl _)
          · simp [h8, h7, h2, h1, hb]
            exact Sub.tup2 (Sub.nil _) (Sub.refl _)
        · simp [h8, h7, h2, h1, he0]
          exact Sub.tup2 (Sub.nil _) (Sub.refl _)
      · simp [h8, h7, h2, h1, hi']
        refine he.use ?_
        rw [← hL]
        generalize rowE t acc = R
        obtain ⟨b, e⟩ := R
        by_cases he0 : e = 0
        · subst he0
          by_cases hb : b = s
          · subst hb
            simp [h8, h7, h2, h1]
            exact Sub.tup2 (Sub.drop _ _ _) (Sub.refl _)
          · simp [h8, h7, h2, h1, hb]
            exact Sub.tup2 (Sub.nil _) (Sub.refl _)
        · simp [h8, h7, h2, h1, he0]
          exact Sub.tup2 (Sub.nil _) (Sub.refl _)
    · simp only [not_or] at hend
      obtain ⟨hd1, hd2⟩ := hend
      cases hdc : t.cols.drop i with
      | nil => exact absurd hdc hd1
      | cons c cs =>
      cases hds : s.drop f with
      | nil => exact absurd hds hd2
      | cons x b =>
        obtain ⟨hlt, hg, hga, hdr, hm'⟩ := csA_get hdc
        have hgi := (List.getElem?_eq_some_iff.1 hga).2
        simp only [cA, strV] at hgi
        have hfl : f < s.length := by have := congrArg List.length hds; simp at this; omega
        have hgx : s[f]? = some x := by rw [← List.head?_drop, hds]; rfl
        have hga2 : (bytesA s)[f]? = some (.s (.int .u8 x.toNat)) := by simp [bytesA, hgx, byteA]
        have hgx2 := (List.getElem?_eq_some_iff.1 hga2).2
        have hsb : s.drop (f + 1) = b := by rw [← List.drop_drop, hds]; rfl
        have hbl : b.length + f + 1 = s.length := by have := congrArg List.length hds; simp at this; omega
        have hltI : (i : Int) < t.cols.length := by omega
        have hflI : (f : Int) < s.length := by omega
        have wf : IntKind.i64.wrap ((f : Int) + 1) = (f : Int) + 1 := wrap_i64_in _ (by omega) (by omega)
        have wi : IntKind.i64.wrap ((i : Int) + 1) = (i : Int) + 1 := wrap_i64_in _ (by omega) (by omega)
        have hge : (0 : Int) ≤ (f : Int) + 1 := by omega
        have hfle : (f : Int) + 1 ≤ s.length := by omega
        have etn : ((f : Int) + 1).toNat = f + 1 := by omega
        rw [hdc, hds] at hx
        simp only [rlR] at hx
        have fin : ∀ (v : V) (f' : Nat) (E' : Env) (q' : Own) (H' : AHeap), f' ≤ s.length + 1 → acc ++ v :: rlR cs (s.drop f') = rlR t.cols s → E' 8 = .s (.int .i64 ((i : Int) + 1)) → E' 7 = .s (.int .i64 f') → E' 2 = .rp [.s (strV t.name), .lst 4 (csA t.cols) none] → E' 1 = .lst 1 (bytesA s) o →
            E' 6 = .lst 4 (vsA acc ++ [vA v]) (some (87, q')) → find 87 H' = some (.own 63 4 (acc.length + 1) q') → ∃ m, m < t.cols.length - i ∧ I m E' H' := fun v f' E' q' H' a1 a2 a8 a7 a2' a1' a6 af => by
          refine ⟨t.cols.length - (i + 1), by omega, ?_⟩
          rw [hI]
          refine ⟨i + 1, f', acc ++ [v], rfl, by omega, a1, by rw [a8]; simp, a7, a2', a1', ⟨87, q', by rw [a6, vsA_snoc], by rw [af]; simp [vsA]⟩, ?_, by simp; omega⟩
          rw [hdr, ← a2]; simp
        have hrl := rl1_le c.kind b
        by_cases hx1 : x.toNat = 1
        · rw [if_pos hx1] at hx
          by_cases k1 : c.kind = 1
          · simp [h8, h7, h2, h1, hltI, hflI, hlt, hfl, hgi, hgx2, hx1, wf, k1, hge, hfle, etn]
            intro b0
            refine (refInt_ok gl (s.drop (f + 1)) none (by rw [hsb]; omega)).use ?_
            rw [hsb]
            have hrl1 : rl1 c.kind b = (⟨1, (intD b).1, [], false⟩, (intD b).2.1) := by simp [rl1, k1]
            rw [hrl1] at hx hrl
            simp only at hx hrl
            have wk : IntKind.i64.wrap ((f : Int) + 1 + ((intD b).2.1 : Int)) = ((f + 1 + (intD b).2.1 : Nat) : Int) := by rw [wrap_i64_in _ (by omega) (by omega)]; simp
            simp [intI, h8, h7, h2, h1, wk, wi]
            refine ⟨by decide, by omega, by omega, fun q' => ?_⟩
            exact fin ⟨1, (intD b).1, [], false⟩ (f + 1 + (intD b).2.1) _ q' _ (by omega) (by rw [← hx, ← List.drop_drop, hsb]) (by simp) (by simp) (by simp [h2, strV]) (by simp [h1]) (by simp [vA, strV]) (by simp)
          · by_cases k2 : c.kind = 2
            · simp [h8, h7, h2, h1, hltI, hflI, hlt, hfl, hgi, hgx2, hx1, wf, k2, hge, hfle, etn]
              intro b0
              refine (refText_ok gl (s.drop (f + 1)) none 4096 (by omega) (by omega) (by rw [hsb]; omega)).use ?_
              rw [hsb]
              have hrl1 : rl1 c.kind b = (⟨2, 0, (textD b 4096).1, false⟩, (textD b 4096).2.1) := by simp [rl1, k2]
              rw [hrl1] at hx hrl
              simp only at hx hrl
              have wk : IntKind.i64.wrap ((f : Int) + 1 + ((textD b 4096).2.1 : Int)) = ((f + 1 + (textD b 4096).2.1 : Nat) : Int) := by rw [wrap_i64_in _ (by omega) (by omega)]; simp
              simp [textI, strV, h8, h7, h2, h1, wk, wi]
              refine ⟨by decide, by omega, by omega, fun q' => ?_⟩
              exact fin ⟨2, 0, (textD b 4096).1, false⟩ (f + 1 + (textD b 4096).2.1) _ q' _ (by omega) (by rw [← hx, ← List.drop_drop, hsb]) (by simp) (by simp) (by simp [h2, strV]) (by simp [h1]) (by simp [vA, strV]) (by simp)
            · by_cases k3 : c.kind = 3
              · have hrl1 : rl1 c.kind b = (⟨3, 0, [], decide ((b[0]?).any fun d => d.toNat = 1)⟩, 1) := by simp [rl1, k3]
                rw [hrl1] at hx hrl
                simp only at hx hrl
                have w2 : IntKind.i64.wrap ((f : Int) + 1 + 1) = ((f + 2 : Nat) : Int) := by rw [wrap_i64_in _ (by omega) (by omega)]; simp; omega
                have hd2 : s.drop (f + 2) = b.drop 1 := by rw [← hsb, List.drop_drop]
                rw [← hd2] at hx
                cases b with
                | nil =>
                  have hn : ¬ (f : Int) + 1 < s.length := by simp at hbl; omega
                  simp [h8, h7, h2, h1, hltI, hflI, hlt, hfl, hgi, hgx2, hx1, wf, wi, k3, hn, w2]
                  refine fun b => ⟨by decide, by omega, by omega, fun q' => ?_⟩
                  exact fin ⟨3, 0, [], false⟩ (f + 2) _ q' _ (by omega) (by rw [← hx]; simp) (by simp) (by simp) (by simp [h2, strV]) (by simp [h1]) (by simp [vA, strV]) (by simp)
                | cons d r2 =>
                  have hn : (f : Int) + 1 < s.length := by simp at hbl; omega
                  have hg1 : s[f + 1]? = some d := by
                    have : (s.drop (f + 1))[0]? = some d := by rw [hsb]; rfl
                    simpa using this
                  have hga3 : (bytesA s)[f + 1]? = some (.s (.int .u8 d.toNat)) := by simp [bytesA, hg1, byteA]
                  have hga4 := (List.getElem?_eq_some_iff.1 hga3).2
                  have hdec : decide ((d.toNat : Int) = 1) = decide (d.toNat = 1) := by
                    rw [decide_eq_decide]; omega
                  simp [h8, h7, h2, h1, hltI, hflI, hlt, hfl, hgi, hgx2, hx1, wf, wi, k3, hn, w2, hge, etn, hga3, hga4, hdec]
                  refine fun b => ⟨by decide, by omega, by omega, fun q' => ?_⟩
                  exact fin ⟨3, 0, [], decide (d.toNat = 1)⟩ (f + 2) _ q' _ (by omega) (by rw [← hx]; simp) (by simp) (by simp) (by simp [h2, strV]) (by simp [h1]) (by simp [vA, strV]) (by simp)
              · simp [h8, h7, h2, h1, hltI, hflI, hlt, hfl, hgi, hgx2, hx1, wf, wi, k1, k2, k3, hge, hfle, etn]
                have hrl1 : rl1 c.kind b = (⟨c.kind, 0, [], false⟩, 0) := by simp [rl1, k1, k2, k3]
                rw [hrl1] at hx hrl
                simp only [List.drop_zero] at hx hrl
                refine fun b0 => ⟨by decide, by omega, by omega, fun q' => ?_⟩
                exact fin ⟨c.kind, 0, [], false⟩ (f + 1) _ q' _ (by omega) (by rw [hsb]; exact hx) (by simp) (by simp) (by simp [h2, strV]) (by simp [h1]) (by simp [vA, strV]) (by simp)
        · rw [if_neg hx1] at hx
          have hx1I : ¬ (x.toNat : Int) = 1 := by omega
          simp [h8, h7, h2, h1, hltI, hflI, hlt, hfl, hgi, hgx2, hx1, hx1I, wf, wi]
          refine fun b0 => ⟨by decide, by omega, by omega, fun q' => ?_⟩
          exact fin nullV (f + 1) _ q' _ (by omega) (by rw [hsb]; exact hx) (by simp) (by simp) (by simp [h2, strV]) (by simp [h1]) (by simp [vA, nullV, strV]) (by simp)
end Go.Proofs.YtjhnabdcmfjeoaaGreatDoor.Ab
