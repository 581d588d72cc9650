/- The contracts of the document's answer: numbers, texts. Own work. -/
import Derived.Test.YtjhnabdcmfjeoaaGreatDoorYM
set_option linter.unusedSimpArgs false
set_option linter.unusedVariables false
namespace Go.Proofs.YtjhnabdcmfjeoaaGreatDoor.Ab
open Go

/-- A list of its own, under some label, whatever else is owned. -/
def retOwnX (T : TypeId) (sz : Nat) (es : List AV) : AV → AHeap → Prop := fun av H => ∃ l q, av = .lst sz es (some (l, q)) ∧ find l H = some (.own T sz es.length q)
theorem CallsA.relabelX {P : Program} {gl : Nat → AV} {f : FuncId} {args : List AV} {H : AHeap} {l' : Nat} {T : TypeId} {sz : Nat} {es : List AV} (h : CallsA P gl f args H (retOwnX T sz es)) : CallsA P gl f args H (retOwn l' T sz es) := by
  refine h.view ?_
  rintro im w B av H' v hok hr ⟨l, q, rfl, hf⟩
  have hp := hok.pick [l] (by simp)
  simp [hf] at hp
  exact ⟨im, _, _, hp.relabel, hr.relabel, q, rfl, rfl⟩

set_option maxRecDepth 20000
theorem uints_ok (gl : Nat → AV) (l : Nat) (n : Nat) (hn : n < 2 ^ 64) : CallsA Tryz.prog gl 49 [.s (.int .u64 n)] [] (retOwn l 5 1 (bytesA (uintB n))) := by
  induction n using Nat.strongRecOn generalizing l with
  | _ n ih =>
    refine CallsA.relabelX ?_
    refine calls_of_code (C := ⟨Tryz.prog, gl, 17, [7, 12]⟩) (fn := Tryz.f49) rfl rfl rfl (by simp) (vc_sound _ _ _ _ ?_)
    unfold uintB
    by_cases h : n < 128
    · have hI : (n : Int) < 128 := by omega
      have hb : bytesA [UInt8.ofNat n] = [.s (.int .u8 n)] := by simp [bytesA, byteA_of n (by omega)]
      rw [if_pos h, hb]
      simp [Tryz.f49, hI]
      refine ⟨by decide, fun q => ⟨7, q, ?_, by simp⟩⟩
      rw [wrap_u8, show (n : Int) % 256 = n by omega]
    · have hI : ¬ (n : Int) < 128 := by omega
      have hb : bytesA (UInt8.ofNat (n % 128 + 128) :: uintB (n / 128)) = .s (.int .u8 ((n % 128 + 128 : Nat) : Int)) :: bytesA (uintB (n / 128)) := by rw [bytesA_cons, ← byteA_of (n % 128 + 128) (by omega)]; rfl
      rw [if_neg h, hb]
      simp [Tryz.f49, hI]
      refine ⟨by decide, fun q => ?_⟩
      rw [wrap_u64_in _ (by omega) (by omega), show (n : Int) / 128 = ((n / 128 : Nat) : Int) by omega]
      refine (ih (n / 128) (by omega) 15 (by omega)).own fun q2 => ?_
      have hu := uintB_len 9 (n / 128) (by omega)
      simp
      refine ⟨by omega, by omega, fun q3 => ⟨16, q3, ?_, by simp [Nat.add_comm]⟩⟩
      have e : IntKind.u8.wrap (IntKind.u8.wrap ((n : Int).tmod 128) + 128) = ((n % 128 + 128 : Nat) : Int) := by
        rw [wrap_u8, wrap_u8, Int.tmod_eq_emod_of_nonneg (by omega)]; omega
      simp [e]

theorem texts_ok (gl : Nat → AV) (l : Nat) (s : List UInt8) (hs : s.length ≤ 2 ^ 45) : CallsA Tryz.prog gl 27 [.s (strV s)] [] (retOwn l 5 1 (bytesA (uintB s.length ++ s))) := by
  refine CallsA.relabelX ?_
  refine calls_of_code (C := ⟨Tryz.prog, gl, 9, []⟩) (fn := Tryz.f27) rfl rfl rfl (by simp) (vc_sound _ _ _ _ ?_)
  simp [Tryz.f27, strV]
  rw [wrap_u64_in _ (by omega) (by omega)]
  refine (uints_ok gl 6 s.length (by omega)).own fun q => ?_
  have := uintB_len 9 s.length (by omega)
  simp
  exact ⟨by omega, by omega, fun q' => ⟨8, q', by simp [bytesA_app]⟩⟩

theorem refInts_ok (gl : Nat → AV) (l : Nat) (n : Int) (h1 : -9223372036854775808 ≤ n) (h2 : n ≤ 9223372036854775807) : CallsA Tryz.prog gl 54 [.s (.int .i64 n)] [] (retOwn l 5 1 (bytesA (uintB (zig n)))) := by
  refine CallsA.relabelX ?_
  refine calls_of_code (C := ⟨Tryz.prog, gl, 16, []⟩) (fn := Tryz.f54) rfl rfl rfl (by simp) (vc_sound _ _ _ _ ?_)
  have wr : ∀ x : Int, IntKind.u64.wrap x = x % 18446744073709551616 := fun x => by simp [IntKind.wrap, IntKind.bits, IntKind.signed]
  by_cases h : 0 ≤ n
  · have e : IntKind.u64.wrap (2 * IntKind.u64.wrap n) = (zig n : Int) := by
      rw [wr, wr]; unfold zig; rw [if_pos h]; omega
    simp [Tryz.f54, h, e]
    refine (uints_ok gl 8 (zig n) (zig_lt n h1 h2)).own fun q => ?_
    simp
    exact ⟨8, q, rfl, by simp⟩
  · have e : IntKind.u64.wrap (IntKind.u64.wrap (2 * IntKind.u64.wrap (IntKind.i64.wrap (-IntKind.i64.wrap (n + 1)))) + 1) = (zig n : Int) := by
      rw [wrap_i64_in (n + 1) (by omega) (by omega), wrap_i64_in _ (by omega) (by omega), wr, wr, wr]; unfold zig; rw [if_neg h]; omega
    simp [Tryz.f54, h]
    rw [e]
    refine (uints_ok gl 15 (zig n) (zig_lt n h1 h2)).own fun q => ?_
    simp
    exact ⟨15, q, rfl, by simp⟩

/-- Counts behind bytes. -/
theorem counts_ok (gl : Nat → AV) (l : Nat) (b : List UInt8) (ns : List Int) (o o' : Option (Nat × Own)) (hb : b.length ≤ 2 ^ 40) (hn : ns.length ≤ 2 ^ 30) (h : ∀ n ∈ ns, 0 ≤ n ∧ n ≤ 9223372036854775807) :
    CallsA Tryz.prog gl 23 [.lst 1 (bytesA b) o, .lst 1 (intsA ns) o'] [] (retOwn l 5 1 (bytesA (b ++ depsB ns))) := by
  refine CallsA.relabelX ?_
  refine calls_of_code (C := ⟨Tryz.prog, gl, 25, []⟩) (fn := Tryz.f23) rfl rfl rfl (by simp) (vc_sound _ _ _ _ ?_)
  simp [Tryz.f23]
  refine ⟨by omega, by omega, fun q => ?_⟩
  refine W_relabel 5 9 23 (by simp; rfl) ?_
  obtain ⟨I, hI⟩ : ∃ I : Nat → Env → AHeap → Prop, I = fun k E H => ∃ (i : Nat) (xs : List UInt8) (q : Own), k = ns.length - i ∧ i ≤ ns.length ∧ E 6 = .s (.int .i64 i) ∧ E 1 = .lst 1 (intsA ns) o' ∧ E 5 = .lst 1 (bytesA xs) (some (23, q)) ∧ H = [(23, .own 5 1 xs.length q)] ∧
    xs ++ depsB (ns.drop i) = b ++ depsB ns ∧ xs.length ≤ b.length + 10 * i := ⟨_, rfl⟩
  refine W_loopN [23] (by decide) I ns.length ?_ ?_
  · rw [hI]
    exact ⟨0, b, q, rfl, by omega, by simp, by simp [argE], by simp, by simp, by simp, by omega⟩
  · intro k E H hi0
    rw [hI] at hi0
    obtain ⟨i, xs, q, rfl, hi, h6, h1, h5, rfl, hx, hxl⟩ := hi0
    refine vc_sound _ _ _ _ ?_
    cases hd : ns.drop i with
    | nil =>
      have : i = ns.length := by have := List.drop_eq_nil_iff.1 hd; omega
      subst this
      rw [hd] at hx
      simp [depsB] at hx
      simp [h6, h1, h5]
      exact ⟨23, q, by rw [hx]; simp [depsB], by rw [hx]; simp [depsB]⟩
    | cons n r =>
      obtain ⟨hlt, hg, hga, hdr, hm'⟩ := intsA_get hd
      have hgi := (List.getElem?_eq_some_iff.1 hga).2
      obtain ⟨n0, n1⟩ := h n hm'
      obtain ⟨m, rfl⟩ : ∃ m : Nat, n = m := ⟨n.toNat, by omega⟩
      have e2 : IntKind.i64.wrap ((i : Int) + 1) = (i : Int) + 1 := wrap_i64_in _ (by omega) (by omega)
      have hu := uintB_len 9 m (by omega)
      simp [h6, h1, h5, hlt, hgi]
      rw [wrap_u64_in _ (by omega) (by omega)]
      refine (uints_ok gl 22 m (by omega)).own fun q2 => ?_
      simp [h6, h1, h5, hlt, hgi, e2]
      refine ⟨by omega, by omega, fun q' => ⟨ns.length - (i + 1), by omega, ?_⟩⟩
      rw [hI]
      refine ⟨i + 1, xs ++ uintB m, q', rfl, by omega, by simp, by simp [h1], by simp [bytesA_app], by simp, ?_, by simp; omega⟩
      rw [hd] at hx
      rw [hdr, ← hx]
      simp [depsB]
end Go.Proofs.YtjhnabdcmfjeoaaGreatDoor.Ab
/- The contracts of the document's answer: keys, values, tables by name. Own work. -/
set_option linter.unusedSimpArgs false
set_option linter.unusedVariables false
namespace Go.Proofs.YtjhnabdcmfjeoaaGreatDoor.Ab
open Go

set_option maxRecDepth 20000
theorem refKeys_ok (gl : Nat → AV) (t : Tb) (hl : t.cols.length ≤ 2 ^ 40) : PureA Tryz.prog gl 50 [tA t] (.lst 1 (intsA (keyIdx t.cols 0)) none) := by
  refine PureA.ofSub ?_
  refine calls_of_code (C := ⟨Tryz.prog, gl, 23, []⟩) (fn := Tryz.f50) rfl rfl rfl (by simp) (vc_sound _ _ _ _ ?_)
  simp [Tryz.f50, tA]
  refine W_nilOwn 3 3 1 21 (by simp) ?_
  obtain ⟨I, hI⟩ : ∃ I : Nat → Env → AHeap → Prop, I = fun k E H => ∃ (i : Nat) (ks : List Int) (q : Own), k = t.cols.length - i ∧ i ≤ t.cols.length ∧ E 4 = .s (.int .i64 i) ∧ E 1 = .rp [.s (strV t.name), .lst 4 (csA t.cols) none] ∧ E 3 = .lst 1 (intsA ks) (some (21, q)) ∧
    H = [(21, .own 3 1 ks.length q)] ∧ ks ++ keyIdx (t.cols.drop i) i = keyIdx t.cols 0 ∧ ks.length ≤ i := ⟨_, rfl⟩
  refine W_loopN [21] (by decide) I t.cols.length ?_ ?_
  · rw [hI]
    exact ⟨0, [], .nil, rfl, by omega, by simp, by simp [strV], by simp [intsA], by simp, by simp, by simp⟩
  · intro k E H hi0
    rw [hI] at hi0
    obtain ⟨i, ks, q, rfl, hi, h4, h1, h3, rfl, hx, hks⟩ := hi0
    refine vc_sound _ _ _ _ ?_
    cases hd : t.cols.drop i with
    | nil =>
      have : i = t.cols.length := by have := List.drop_eq_nil_iff.1 hd; omega
      subst this
      rw [hd] at hx
      simp only [keyIdx, List.append_nil] at hx
      simp [h4, h1, h3, hx]
      exact Sub.drop _ _ _
    | cons c r =>
      obtain ⟨hlt, hg, hga, hdr, hm'⟩ := csA_get hd
      have hgi := (List.getElem?_eq_some_iff.1 hga).2
      have e2 : IntKind.i64.wrap ((i : Int) + 1) = (i : Int) + 1 := wrap_i64_in _ (by omega) (by omega)
      simp only [cA, strV] at hgi
      rw [hd] at hx
      simp only [keyIdx] at hx
      cases hk : c.key with
      | true =>
        simp [hk] at hx
        simp [h4, h1, h3, hlt, hgi, hk, e2]
        refine ⟨by decide, by omega, by omega, fun q' => ⟨t.cols.length - (i + 1), by omega, ?_⟩⟩
        rw [hI]
        exact ⟨i + 1, ks ++ [(i : Int)], q', rfl, by omega, by simp, by simp [h1], by simp [intsA], by simp, by rw [hdr, ← hx]; simp, by simp; omega⟩
      | false =>
        simp [hk] at hx
        simp [h4, h1, h3, hlt, hgi, hk, e2]
        refine ⟨t.cols.length - (i + 1), by omega, ?_⟩
        rw [hI]
        exact ⟨i + 1, ks, q, rfl, by omega, by simp, by simp [h1], by simp [h3], by simp, by rw [hdr]; exact hx, by omega⟩

theorem refFind_ok (gl : Nat → AV) (l : List Tb) (s : List UInt8) (o : Option (Nat × Own)) (hl : l.length ≤ 2 ^ 40) : PureA Tryz.prog gl 24 [.lst 2 (tsA l) o, .s (strV s)] (.tup [.s (.int .i64 (findE l s).1), .s (.int .i64 (findE l s).2)]) := by
  refine calls_of_code (C := ⟨Tryz.prog, gl, 21, []⟩) (fn := Tryz.f24) rfl rfl rfl (by simp) (vc_sound _ _ _ _ ?_)
  simp [Tryz.f24]
  obtain ⟨I, hI⟩ : ∃ I : Nat → Env → AHeap → Prop, I = fun k E H => ∃ (i : Nat), k = l.length - i ∧ i ≤ l.length ∧ E 6 = .s (.int .i64 i) ∧ E 0 = .lst 2 (tsA l) o ∧ E 1 = .s (strV s) ∧ H = [] ∧ tbIdx (l.drop i) s i = tbIdx l s 0 := ⟨_, rfl⟩
  refine W_loopN [] (by decide) I l.length ?_ ?_
  · rw [hI]
    exact ⟨0, rfl, by omega, by simp, by simp [argE], by simp [argE], by simp, by simp⟩
  · intro k E H hi0
    rw [hI] at hi0
    obtain ⟨i, rfl, hi, h6, h0, h1, rfl, hx⟩ := hi0
    refine vc_sound _ _ _ _ ?_
    cases hd : l.drop i with
    | nil =>
      have : i = l.length := by have := List.drop_eq_nil_iff.1 hd; omega
      subst this
      rw [hd] at hx
      simp only [tbIdx] at hx
      simp [h6, h0, h1, findE, ← hx]
    | cons t r =>
      obtain ⟨hlt, hg, hga, hdr, hm'⟩ := tsA_get hd
      have hgi := (List.getElem?_eq_some_iff.1 hga).2
      have e2 : IntKind.i64.wrap ((i : Int) + 1) = (i : Int) + 1 := wrap_i64_in _ (by omega) (by omega)
      simp only [tA, strV] at hgi
      rw [hd] at hx
      simp only [tbIdx] at hx
      by_cases ht : t.name = s
      · rw [if_pos ht] at hx
        simp [h6, h0, h1, hlt, hgi, strV, ht, findE, ← hx]
      · rw [if_neg ht] at hx
        simp [h6, h0, h1, hlt, hgi, strV, ht, e2]
        refine ⟨l.length - (i + 1), by omega, ?_⟩
        rw [hI]
        exact ⟨i + 1, rfl, by omega, by simp, by simp [h0], by simp [h1, strV], by simp, by rw [hdr]; exact hx⟩

theorem refValid_ok (gl : Nat → AV) (v : V) (hl : v.t.length ≤ 2 ^ 40) : PureA Tryz.prog gl 51 [vA v] (.s (.int .i64 v.valid)) := by
  refine calls_of_code (C := ⟨Tryz.prog, gl, 64, []⟩) (fn := Tryz.f51) rfl rfl rfl (by simp) (vc_sound _ _ _ _ ?_)
  generalize hR : v.valid = R
  by_cases hbad : v.k < 0 ∨ 3 < v.k ∨ v.bare = false
  · have hR3 : R = 3 := by rw [← hR]; simp only [V.valid]; rw [if_pos hbad]
    subst hR3
    simp only [V.bare] at hbad
    have hbad' : v.k < 0 ∨ 3 < v.k ∨ (¬ v.k = 1 ∧ ¬ v.n = 0) ∨ (¬ v.k = 2 ∧ ¬ v.t = []) ∨ (¬ v.k = 3 ∧ v.b = true) := by
      rcases hbad with h | h | h
      · exact .inl h
      · exact .inr (.inl h)
      · simp only [Bool.and_eq_false_iff, Bool.or_eq_false_iff, decide_eq_false_iff_not] at h
        rcases h with (h | h) | h
        · exact .inr (.inr (.inl h))
        · exact .inr (.inr (.inr (.inl h)))
        · exact .inr (.inr (.inr (.inr ⟨h.1, by simpa using h.2⟩)))
    simp [Tryz.f51, vA]
    repeat' (first | apply And.intro | intro _)
    all_goals first
      | trivial
      | (exfalso; rcases hbad' with h | h | h | h | h <;> first | omega | simp_all)
  · have hRl : (if 4096 < v.t.length then 2 else if v.t.any badC = true then 3 else 0) = R := by rw [← hR]; simp only [V.valid]; rw [if_neg hbad]
    simp only [not_or, Int.not_lt, Bool.not_eq_false] at hbad
    obtain ⟨k1, k2, k3⟩ := hbad
    simp only [V.bare, Bool.and_eq_true, Bool.or_eq_true, decide_eq_true_eq] at k3
    obtain ⟨⟨b1, b2⟩, b3⟩ := k3
    obtain ⟨kk, n, t, b⟩ := v
    simp only at k1 k2 b1 b2 b3 hRl hl
    have hk : kk = 0 ∨ kk = 1 ∨ kk = 2 ∨ kk = 3 := by omega
    have p2 : ¬ kk = 2 → (t = []) = True := fun h => eq_true (b2.resolve_left h)
    by_cases hlong : (4096 : Int) < t.length
    · rw [if_pos (by omega)] at hRl
      subst hRl
      have hne : ¬ t = [] := fun h => by rw [h] at hlong; simp at hlong
      have : kk = 2 := b2.resolve_right hne
      subst this
      simp at b1 b3
      simp [Tryz.f51, vA, b1, b3, hlong]
    · rw [if_neg (by omega)] at hRl
      obtain ⟨I, hI⟩ : ∃ I : Nat → Env → AHeap → Prop, I = fun k E H => ∃ (i : Nat) (x y z : Value), k = t.length - i ∧ i ≤ t.length ∧ E 3 = .s (.int .i64 i) ∧ E 1 = .rp [.s x, .s y, .s (strV t), .s z] ∧ H = [] ∧ (if (t.drop i).any badC = true then 3 else 0) = R := ⟨_, rfl⟩
      rcases hk with rfl | rfl | rfl | rfl
      all_goals
        first
        | have p2 := p2 (by decide)
        | have p2 := trivial
        simp at b1 b3
        simp [Tryz.f51, vA, b1, p2, b3, hlong]
        refine W_loopN [] (by decide) I t.length ?_ ?_
        · rw [hI]
          exact ⟨0, _, _, _, rfl, by omega, by simp, by simp [strV]; exact ⟨rfl, rfl, rfl⟩, by simp, by simpa using hRl⟩
        · intro k E H hi0
          rw [hI] at hi0
          obtain ⟨i, x, y, z, rfl, hi, h3, h1, rfl, hc⟩ := hi0
          refine vc_sound _ _ _ _ ?_
          cases hd : t.drop i with
          | nil =>
            have : i = t.length := by have := List.drop_eq_nil_iff.1 hd; omega
            subst this
            rw [hd] at hc
            simp at hc
            subst hc
            simp [h3, h1, strV]
          | cons c r =>
            have hlt : i < t.length := by have := congrArg List.length hd; simp at this; omega
            have hg : t[i]? = some c := by rw [← List.head?_drop, hd]; rfl
            have hgi : t[i] = c := (List.getElem?_eq_some_iff.1 hg).2
            have hdr : t.drop (i + 1) = r := by rw [← List.drop_drop, hd]; rfl
            have e2 : IntKind.i64.wrap ((i : Int) + 1) = (i : Int) + 1 := wrap_i64_in _ (by omega) (by omega)
            rw [hd] at hc
            by_cases hb : badC c = true
            · simp [hb] at hc
              subst hc
              by_cases q1 : (c.toNat : Int) < 32
              · simp [h3, h1, strV, hlt, hgi, q1]
              · have q2 : (126 : Int) < c.toNat := by simp [badC] at hb; omega
                simp [h3, h1, strV, hlt, hgi, q1, q2]
            · have q1 : ¬ (c.toNat : Int) < 32 := by simp [badC] at hb; omega
              have q2 : ¬ (126 : Int) < c.toNat := by simp [badC] at hb; omega
              simp [h3, h1, strV, hlt, hgi, q1, q2, e2]
              refine ⟨t.length - (i + 1), by omega, ?_⟩
              rw [hI]
              exact ⟨i + 1, x, y, z, rfl, by omega, by simp, by simp [h1, strV], by simp, by rw [hdr]; simpa [hb] using hc⟩
end Go.Proofs.YtjhnabdcmfjeoaaGreatDoor.Ab
/- The contracts of the document's answer: rows checked, keys, rows encoded. Own work. -/
set_option linter.unusedSimpArgs false
set_option linter.unusedVariables false
namespace Go.Proofs.YtjhnabdcmfjeoaaGreatDoor.Ab
open Go

set_option maxRecDepth 20000
theorem refCheck_ok (gl : Nat → AV) (t : Tb) (l : List V) (o : Option (Nat × Own)) (hf : ∀ v ∈ l, v.fits) (hl : l.length ≤ 2 ^ 40) (hc : t.cols.length ≤ 2 ^ 40) :
    PureA Tryz.prog gl 53 [tA t, .lst 4 (vsA l) o] (.s (.int .i64 (chkE t l))) := by
  refine CallsA.letgo ?_
  refine calls_of_code (C := ⟨Tryz.prog, gl, 67, []⟩) (fn := Tryz.f53) rfl rfl rfl (by simp) (vc_sound _ _ _ _ ?_)
  generalize hR : chkE t l = R
  unfold chkE at hR
  by_cases hlen : (l.length : Int) = t.cols.length
  · have hlen' : l.length = t.cols.length := by omega
    rw [if_neg (by omega)] at hR
    simp [Tryz.f53, tA, hlen]
    obtain ⟨I, hI⟩ : ∃ I : Nat → Env → AHeap → Prop, I = fun k E H => ∃ (i : Nat), k = l.length - i ∧ i ≤ l.length ∧ E 5 = .s (.int .i64 i) ∧ E 1 = .lst 4 (vsA l) o ∧ E 2 = .rp [.s (strV t.name), .lst 4 (csA t.cols) none] ∧ H = [] ∧ chkR (t.cols.drop i) (l.drop i) = R := ⟨_, rfl⟩
    refine W_loopN [] (by decide) I l.length ?_ ?_
    · rw [hI]
      exact ⟨0, rfl, by omega, by simp, by simp [argE], by simp [strV], by simp, by simpa using hR⟩
    · intro k E H hi0
      rw [hI] at hi0
      obtain ⟨i, rfl, hi, h5, h1, h2, rfl, hx⟩ := hi0
      refine vc_sound _ _ _ _ ?_
      cases hd : l.drop i with
      | nil =>
        have : i = l.length := by have := List.drop_eq_nil_iff.1 hd; omega
        subst this
        rw [hd] at hx
        have : R = 0 := by rw [← hx]; cases t.cols.drop l.length <;> rfl
        subst this
        simp [h5, h1, h2]
      | cons v r =>
        obtain ⟨hlt, hg, hga, hdr, hm'⟩ := vsA_get hd
        have hgi := (List.getElem?_eq_some_iff.1 hga).2
        cases hd2 : t.cols.drop i with
        | nil => have := List.drop_eq_nil_iff.1 hd2; omega
        | cons c r2 =>
          obtain ⟨hlt2, hg2, hga2, hdr2, hm2⟩ := csA_get hd2
          have hgi2 := (List.getElem?_eq_some_iff.1 hga2).2
          have e2 : IntKind.i64.wrap ((i : Int) + 1) = (i : Int) + 1 := wrap_i64_in _ (by omega) (by omega)
          have hltI : (i : Int) < t.cols.length := by omega
          simp only [vA] at hgi
          simp only [cA] at hgi2
          rw [hd, hd2] at hx
          simp only [chkR] at hx
          simp [h5, h1, h2, hlt, hlt2, hltI, hgi, hgi2]
          intro b6
          have hv := refValid_ok gl v (by have := (hf v hm').t; omega)
          simp only [vA] at hv
          refine hv.use ?_
          by_cases hval : v.valid = 0
          · have hgo : fitE c v = 0 → ∃ m, m < l.length - i ∧ True := fun _ => ⟨l.length - (i + 1), by omega, trivial⟩
            by_cases hk0 : v.k = 0
            · cases hkey : c.key with
              | true =>
                have hfe : fitE c v = 33 := by simp [fitE, hval, hk0, hkey]
                simp [hfe] at hx
                subst hx
                simp [h5, h1, h2, hlt, hlt2, hltI, hgi, hgi2, hval, hk0, hkey]
              | false =>
                cases hnull : c.null with
                | false =>
                  have hfe : fitE c v = 33 := by simp [fitE, hval, hk0, hkey, hnull]
                  simp [hfe] at hx
                  subst hx
                  simp [h5, h1, h2, hlt, hlt2, hltI, hgi, hgi2, hval, hk0, hkey, hnull]
                | true =>
                  have hfe : fitE c v = 0 := by simp [fitE, hval, hk0, hkey, hnull]
                  simp [hfe] at hx
                  simp [h5, h1, h2, hlt, hlt2, hltI, hgi, hgi2, hval, hk0, hkey, hnull]
                  refine W_all 17 rfl hmix (by kernel_rfl) (by kernel_rfl) ?_
                  simp [h5, h1, h2, hlt, hlt2, hltI, hgi, hgi2, hval, hk0, hkey, hnull, e2]
                  refine ⟨l.length - (i + 1), by omega, ?_⟩
                  rw [hI]
                  exact ⟨i + 1, rfl, by omega, by simp, by simp [h1], by simp [h2], by simp, by rw [hdr, hdr2]; exact hx⟩
            · by_cases hkk : v.k = c.kind
              · have hfe : fitE c v = 0 := by simp [fitE, hval, hk0]; exact hkk
                simp [hfe] at hx
                simp [h5, h1, h2, hlt, hlt2, hltI, hgi, hgi2, hval, hk0]
                refine W_all 17 rfl hmix (by kernel_rfl) (by kernel_rfl) ?_
                have hkk' : c.kind = v.k := hkk.symm
                simp [h5, h1, h2, hlt, hlt2, hltI, hgi, hgi2, hval, hk0, hkk', e2]
                refine ⟨l.length - (i + 1), by omega, ?_⟩
                rw [hI]
                exact ⟨i + 1, rfl, by omega, by simp, by simp [h1], by simp [h2], by simp, by rw [hdr, hdr2]; exact hx⟩
              · have hfe : fitE c v = 7 := by simp [fitE, hval, hk0]; exact hkk
                simp [hfe] at hx
                subst hx
                simp [h5, h1, h2, hlt, hlt2, hltI, hgi, hgi2, hval, hk0]
                refine W_all 17 rfl hmix (by kernel_rfl) (by kernel_rfl) ?_
                simp [h5, h1, h2, hlt, hlt2, hltI, hgi, hgi2, hval, hk0, hkk, e2]
          · have hfe : fitE c v = v.valid := by simp [fitE, hval]
            rw [hfe] at hx
            simp [hval] at hx
            subst hx
            simp [h5, h1, h2, hlt, hlt2, hltI, hgi, hgi2, hval]
  · rw [if_pos (by omega)] at hR
    subst hR
    simp [Tryz.f53, tA, hlen]

theorem wordB_get (w m : Nat) (h0 : 0 < m) (h8 : m ≤ 8) : (wordB w).take (8 - (m - 1)) = (wordB w).take (8 - m) ++ [UInt8.ofNat (w / 2 ^ (8 * (m - 1)) % 256)] := by
  have : m = 1 ∨ m = 2 ∨ m = 3 ∨ m = 4 ∨ m = 5 ∨ m = 6 ∨ m = 7 ∨ m = 8 := by omega
  rcases this with rfl | rfl | rfl | rfl | rfl | rfl | rfl | rfl <;> simp [wordB]

/-- The byte at a place of a number whose sign is turned. -/
theorem word_byte (n : Int) (h1 : -9223372036854775808 ≤ n) (h2 : n ≤ 9223372036854775807) (k : Nat) (hk : k < 7) :
    IntKind.u8.wrap ((IntKind.u64.wrap n).fdiv (2 ^ min (8 * k) IntKind.u64.bits)) = (((n + 9223372036854775808).toNat / 2 ^ (8 * k) % 256 : Nat) : Int) := by
  have wr : IntKind.u64.wrap n = n % 18446744073709551616 := by simp [IntKind.wrap, IntKind.bits, IntKind.signed]
  have hb : IntKind.u64.bits = 64 := rfl
  rw [wr, wrap_u8, hb]
  have : k = 0 ∨ k = 1 ∨ k = 2 ∨ k = 3 ∨ k = 4 ∨ k = 5 ∨ k = 6 := by omega
  rcases this with rfl | rfl | rfl | rfl | rfl | rfl | rfl <;> simp [Int.fdiv_eq_ediv_of_nonneg] <;> omega
theorem word_top (n : Int) (h1 : -9223372036854775808 ≤ n) (h2 : n ≤ 9223372036854775807) :
    bits .xor .u8 (IntKind.u8.wrap ((IntKind.u64.wrap n).fdiv (2 ^ min 56 IntKind.u64.bits))) 128 = (((n + 9223372036854775808).toNat / 2 ^ 56 % 256 : Nat) : Int) := by
  have wr : IntKind.u64.wrap n = n % 18446744073709551616 := by simp [IntKind.wrap, IntKind.bits, IntKind.signed]
  have hb : IntKind.u64.bits = 64 := rfl
  have key : ∀ x : Fin 256, bits .xor .u8 (x.val : Int) 128 = (((x.val + 128) % 256 : Nat) : Int) := by decide +kernel
  rw [wr, wrap_u8, hb]
  have e : ((n % 18446744073709551616).fdiv (2 ^ min 56 64)) % 256 = (((n % 18446744073709551616).toNat / 2 ^ 56 % 256 : Nat) : Int) := by
    simp [Int.fdiv_eq_ediv_of_nonneg]; omega
  rw [e]
  have := key ⟨(n % 18446744073709551616).toNat / 2 ^ 56 % 256, by omega⟩
  simp only at this
  rw [this]
  omega
end Go.Proofs.YtjhnabdcmfjeoaaGreatDoor.Ab
/- The contracts of the document's answer: rows by order encoded. Own work. -/
set_option linter.unusedSimpArgs false
set_option linter.unusedVariables false
namespace Go.Proofs.YtjhnabdcmfjeoaaGreatDoor.Ab
open Go

set_option maxRecDepth 20000
theorem refEncode_ok (gl : Nat → AV) (l : List V) (o : Option (Nat × Own)) (hf : ∀ v ∈ l, v.fits) (hl : l.length ≤ 2 ^ 40) :
    PureA Tryz.prog gl 52 [.lst 4 (vsA l) o] (.tup [.s (strV (ordE l).1), .s (.int .i64 (ordE l).2)]) := by
  refine CallsA.letgo ?_
  refine calls_of_code (C := ⟨Tryz.prog, gl, 89, []⟩) (fn := Tryz.f52) rfl rfl rfl (by simp) (vc_sound _ _ _ _ ?_)
  have hvl : (vsA l).length = l.length := by simp [vsA]
  simp [Tryz.f52]
  refine W_loopN [] (by decide) (fun k E H => ∃ i : Nat, k = l.length - i ∧ i ≤ l.length ∧ E 4 = .s (.int .i64 i) ∧ E 0 = .lst 4 (vsA l) o ∧ H = [] ∧ firstBad (l.drop i) = firstBad l ∧ (∀ v ∈ l.take i, v.valid = 0)) l.length ?_ ?_
  · exact ⟨0, rfl, by omega, by simp, by simp [argE], rfl, by simp, by simp⟩
  · rintro k E H ⟨i, rfl, hi, h4, h0, rfl, hb, hv⟩
    refine vc_sound _ _ _ _ ?_
    cases hd : l.drop i with
    | cons v r =>
      obtain ⟨hlt, hg, hga, hdr, hm'⟩ := vsA_get hd
      have hgi := (List.getElem?_eq_some_iff.1 hga).2
      have hfb := firstBad_drop l i v r hd hb
      have e2 : IntKind.i64.wrap ((i : Int) + 1) = (i : Int) + 1 := wrap_i64_in _ (by omega) (by omega)
      have hvv := refValid_ok gl v (by have := (hf v hm').t; omega)
      simp only [vA, strV] at hgi hvv
      simp [h4, h0, hlt, hgi, e2]
      refine hvv.use ?_
      by_cases hok : v.valid = 0
      · rw [if_pos hok] at hfb
        simp [h4, h0, e2, hok]
        refine ⟨l.length - (i + 1), by omega, i + 1, rfl, by omega, by omega, hfb.symm, fun x hx => ?_⟩
        rw [List.take_add_one, List.mem_append, hg] at hx
        rcases hx with hx | hx
        · exact hv x hx
        · simp at hx; subst hx; exact hok
      · rw [if_neg hok] at hfb
        simp [ordE, hfb, hok]
    | nil =>
      have : i = l.length := by have := List.drop_eq_nil_iff.1 hd; omega
      subst this
      rw [List.take_length] at hv
      rw [List.drop_length] at hb
      have hb0 : firstBad l = 0 := hb.symm
      simp [h4, h0]
      refine ⟨fun h16 => ?_, fun h16 => ?_⟩
      · simp [ordE, hb0, show 16 < l.length by omega]
      have hord : ordE l = (encVs l, 0) := by simp [ordE, hb0]; omega
      rw [hord]
      refine W_nilOwn 6 5 1 1000 (by simp) ?_
      obtain ⟨I, hI⟩ : ∃ I : Nat → Env → AHeap → Prop, I = fun k E H => ∃ (i : Nat) (xs : List UInt8), k = l.length - i ∧ i ≤ l.length ∧ E 7 = .s (.int .i64 i) ∧ E 0 = .lst 4 (vsA l) o ∧ ownAt E H 6 5 1 (bytesA xs) ∧ xs = encVs (l.take i) ∧ xs.length ≤ 4100 * i := ⟨_, rfl⟩
      refine W_loop I l.length ?_ ?_
      · rw [hI]
        exact ⟨0, [], rfl, by omega, by simp, by simp [h0], ⟨1000, .nil, by simp [bytesA], by simp⟩, by simp [encVs], by simp⟩
      · intro k E H hi0
        rw [hI] at hi0
        obtain ⟨i, xs, rfl, hi, h7, h0, ho, hx, hlen⟩ := hi0
        refine W_norm 6 1000 ho fun q => vc_sound _ _ _ _ ?_
        cases hd : l.drop i with
        | cons v r =>
          obtain ⟨hlt, hg, hga, hdr, hm'⟩ := vsA_get hd
          have hgi := (List.getElem?_eq_some_iff.1 hga).2
          have e2 : IntKind.i64.wrap ((i : Int) + 1) = (i : Int) + 1 := wrap_i64_in _ (by omega) (by omega)
          have hvk := valid_kind v (hv v hm')
          have hnext : xs ++ encV v = encVs (l.take (i + 1)) := by
            rw [List.take_add_one, hg, hx]; simp [encVs]
          have hev := encV_len v (hv v hm')
          have hxs : xs.length ≤ 4100 * 16 := by omega
          simp only [vA, strV] at hgi
          rcases (show v.k = 0 ∨ v.k = 1 ∨ v.k = 2 ∨ v.k = 3 by omega) with hk | hk | hk | hk
          · have e3 : IntKind.u8.wrap (IntKind.i64.wrap 1) = 1 := by decide
            simp [h7, h0, hlt, hgi, e2, hk, e3]
            refine fun b => ⟨by decide, by omega, by omega, fun q' => ⟨l.length - (i + 1), by omega, ?_⟩⟩
            rw [hI]
            exact ⟨i + 1, xs ++ encV v, rfl, by omega, by simp, by simp [h0], ⟨44, q', by simp [encV, hk, bytesA_app, bytesA, byteA], by simp [encV, hk]⟩, hnext, by rw [List.length_append]; omega⟩
          · have e3 : IntKind.u8.wrap (IntKind.i64.wrap 2) = 2 := by decide
            have hvf := hf v hm'
            have n1 := hvf.n1
            have n2 := hvf.n2
            simp [h7, h0, hlt, hgi, e2, hk, e3]
            refine fun b => ⟨by decide, by omega, by omega, fun q' => ?_⟩
            refine W_relabel 6 44 68 (by simp; rfl) ?_
            have hcat : bytesA xs ++ [AV.s (.int .u8 2)] = bytesA (xs ++ [2]) := by simp [bytesA, byteA]
            rw [hcat]
            obtain ⟨J, hJ⟩ : ∃ J : Nat → Env → AHeap → Prop, J = fun m E H => ∃ (q : Own) (ys : List UInt8), m ≤ 8 ∧ ys = xs ++ [2] ++ (wordB (v.n + 9223372036854775808).toNat).take (8 - m) ∧ E 9 = .s (.int .i64 ((m : Int) - 1)) ∧ E 8 = .ptr 8 b 0 ∧ E 7 = .s (.int .i64 i) ∧ E 0 = .lst 4 (vsA l) o ∧
              E 6 = .lst 1 (bytesA ys) (some (68, q)) ∧ ys.length = xs.length + 1 + (8 - m) ∧
              H = [(68, .own 5 1 ys.length q), (8, .box b 63 [AV.s (.int .i64 1), AV.s (.int .i64 v.n), AV.s (.string ⟨v.t.toArray⟩), AV.s (.bool v.b)])] := ⟨_, rfl⟩
            refine W_loopN [68, 8] (by decide) J 8 ?_ ?_
            · rw [hJ]
              exact ⟨q', xs ++ [2], by omega, by simp, by simp, by simp, by simp [h7], by simp [h0], by simp, by simp, by simp⟩
            · intro m E H hj
              rw [hJ] at hj
              obtain ⟨q, ys, hm8, hys, g9, g8, g7, g0, g6, hyl, rfl⟩ := hj
              refine vc_sound _ _ _ _ ?_
              rcases Nat.eq_zero_or_pos m with rfl | hm0
              · have hfull : ys = xs ++ [2] ++ wordB (v.n + 9223372036854775808).toNat := by rw [hys]; simp [wordB]
                simp [g9, g8, g7, g0, g6, e2]
                refine ⟨l.length - (i + 1), by omega, ?_⟩
                rw [hI]
                refine ⟨i + 1, xs ++ encV v, rfl, by omega, by simp, by simp [g0], ⟨68, q, ?_, ?_⟩, hnext, by rw [List.length_append]; omega⟩
                · have : ys = xs ++ encV v := by rw [hfull]; simp [encV, hk]
                  simp [g6, this]
                · have : ys = xs ++ encV v := by rw [hfull]; simp [encV, hk]
                  simp [this]
              · obtain ⟨k, rfl⟩ : ∃ k, m = k + 1 := ⟨m - 1, by omega⟩
                have e8 : IntKind.u64.wrap (IntKind.i64.wrap (8 * (k : Int))) = 8 * (k : Int) := by rw [wrap_i64_in _ (by omega) (by omega), wrap_u64_in _ (by omega) (by omega)]
                have e9 : (8 * (k : Int)).toNat = 8 * k := by omega
                have e10 : IntKind.i64.wrap ((k : Int) - 1) = (k : Int) - 1 := wrap_i64_in _ (by omega) (by omega)
                have hge : (0 : Int) ≤ 8 * (k : Int) := by omega
                have hlen8 : ((wordB (v.n + 9223372036854775808).toNat).take (8 - k)).length = 8 - k := by simp [wordB_len]
                have fin : ∀ (z : Nat) (lab : Nat) (q' : Own), z = (v.n + 9223372036854775808).toNat / 2 ^ (8 * k) % 256 → bytesA ys ++ [AV.s (.int .u8 z)] = bytesA (xs ++ [2] ++ (wordB (v.n + 9223372036854775808).toNat).take (8 - k)) := fun z lab q' hz => by
                  rw [hz, ← byteA_of _ (by omega), hys]
                  have := wordB_get (v.n + 9223372036854775808).toNat (k + 1) (by omega) hm8
                  simp only [Nat.add_sub_cancel] at this
                  rw [this]
                  simp [bytesA]
                by_cases h7k : k = 7
                · subst h7k
                  have e11 := word_top v.n n1 n2
                  have w56 : IntKind.u64.wrap (IntKind.i64.wrap 56) = 56 := by decide
                  simp [g9, g8, g7, g0, g6, e2, w56]
                  refine ⟨by decide, by omega, by omega, fun q' => ⟨7, by omega, ?_⟩⟩
                  rw [hJ]
                  exact ⟨q', xs ++ [2] ++ (wordB (v.n + 9223372036854775808).toNat).take (8 - 7), by omega, rfl, by simp; decide, by simp [g8], by simp [g7], by simp [g0], by simp; rw [e11]; simpa using fin _ 68 q' rfl, by simp [wordB_len]; try omega, by simp [wordB_len]; omega⟩
                · have h7k' : ¬ (k : Int) = 7 := by omega
                  have e11 := word_byte v.n n1 n2 k (by omega)
                  simp [g9, g8, g7, g0, g6, e2, e8, e9, e10, hge, h7k']
                  refine ⟨by decide, by omega, by omega, fun q' => ⟨k, by omega, ?_⟩⟩
                  rw [hJ]
                  exact ⟨q', xs ++ [2] ++ (wordB (v.n + 9223372036854775808).toNat).take (8 - k), by omega, rfl, by simp, by simp [g8], by simp [g7], by simp [g0], by simp; rw [e11]; simpa using fin _ 68 q' rfl, by simp [wordB_len]; try omega, by simp [wordB_len]; omega⟩
          · have e3 : IntKind.u8.wrap (IntKind.i64.wrap 3) = 3 := by decide
            simp [h7, h0, hlt, hgi, e2, hk, e3]
            refine fun b => ⟨by decide, by omega, by omega, fun q' => ⟨by omega, by omega, fun q' => ⟨by decide, by omega, by omega, by omega, fun q' => ⟨l.length - (i + 1), by omega, ?_⟩⟩⟩⟩
            rw [hI]
            exact ⟨i + 1, xs ++ encV v, rfl, by omega, by simp, by simp [h0], ⟨76, q', by simp [encV, hk, bytesA_app, bytesA, byteA], by simp [encV, hk]; omega⟩, hnext, by rw [List.length_append]; omega⟩
          · have e3 : IntKind.u8.wrap (IntKind.i64.wrap 4) = 4 := by decide
            simp [h7, h0, hlt, hgi, e2, hk, e3]
            refine fun b => ⟨by decide, by omega, by omega, fun q' => ⟨fun hb => ⟨by decide, by omega, by omega, fun q' => ⟨l.length - (i + 1), by omega, ?_⟩⟩, fun hb => ⟨by decide, by omega, by omega, fun q' => ⟨l.length - (i + 1), by omega, ?_⟩⟩⟩⟩
            · rw [hI]
              exact ⟨i + 1, xs ++ encV v, rfl, by omega, by simp, by simp [h0], ⟨83, q', by simp [encV, hk, bytesA_app, bytesA, byteA, hb], by simp [encV, hk]⟩, hnext, by rw [List.length_append]; omega⟩
            · rw [hI]
              exact ⟨i + 1, xs ++ encV v, rfl, by omega, by simp, by simp [h0], ⟨86, q', by simp [encV, hk, bytesA_app, bytesA, byteA, hb], by simp [encV, hk]⟩, hnext, by rw [List.length_append]; omega⟩
        | nil =>
          have : i = l.length := by have := List.drop_eq_nil_iff.1 hd; omega
          subst this
          rw [List.take_length] at hx
          simp [h7, h0, hx]
end Go.Proofs.YtjhnabdcmfjeoaaGreatDoor.Ab
/- The contracts of the document's answer: keys of rows, rows encoded. Own work. -/
set_option linter.unusedSimpArgs false
set_option linter.unusedVariables false
namespace Go.Proofs.YtjhnabdcmfjeoaaGreatDoor.Ab
open Go

set_option maxRecDepth 20000
theorem refKeyOf_ok (gl : Nat → AV) (t : Tb) (l : List V) (o : Option (Nat × Own)) (hf : ∀ v ∈ l, v.fits) (hl : l.length ≤ 2 ^ 40) (hc : t.cols.length ≤ 2 ^ 40) :
    PureA Tryz.prog gl 25 [tA t, .lst 4 (vsA l) o] (.tup [.s (strV (keyE t l).1), .s (.int .i64 (keyE t l).2)]) := by
  refine CallsA.letgo ?_
  refine calls_of_code (C := ⟨Tryz.prog, gl, 57, []⟩) (fn := Tryz.f25) rfl rfl rfl (by simp) (vc_sound _ _ _ _ ?_)
  simp [Tryz.f25, tA]
  have hk := refKeys_ok gl t hc
  simp only [tA, strV] at hk
  refine hk.use ?_
  have hlt := keyIdx_lt t.cols 0
  have hkl := keyIdx_len t.cols 0
  generalize hR : keyE t l = R
  unfold keyE at hR
  generalize keyIdx t.cols 0 = ks at hlt hkl hR ⊢
  simp
  refine ⟨fun hne => ?_, fun heq => ?_⟩
  · rw [if_pos (by omega)] at hR
    subst hR
    simp
  · have hlen : l.length = ks.length := by omega
    rw [if_neg (by omega)] at hR
    obtain ⟨I, hI⟩ : ∃ I : Nat → Env → AHeap → Prop, I = fun k E H => ∃ (i : Nat), k = ks.length - i ∧ i ≤ ks.length ∧ E 7 = .s (.int .i64 i) ∧ E 6 = .lst 1 (intsA ks) none ∧ E 1 = .lst 4 (vsA l) o ∧ E 2 = .rp [.s (strV t.name), .lst 4 (csA t.cols) none] ∧ H = [] ∧ koR t.cols (ks.drop i) (l.drop i) = koR t.cols ks l := ⟨_, rfl⟩
    refine W_loopN [] (by decide) I ks.length ?_ ?_
    · rw [hI]
      exact ⟨0, rfl, by omega, by simp, by simp, by simp [argE], by simp [strV], by simp, by simp⟩
    · intro k E H hi0
      rw [hI] at hi0
      obtain ⟨i, rfl, hi, h7, h6, h1, h2, rfl, hx⟩ := hi0
      refine vc_sound _ _ _ _ ?_
      simp only [strV] at h2
      cases hd : ks.drop i with
      | nil =>
        have : i = ks.length := by have := List.drop_eq_nil_iff.1 hd; omega
        subst this
        rw [hd] at hx
        simp only [koR] at hx
        rw [if_neg (by simp [← hx])] at hR
        subst hR
        simp [h7, h6, h1, h2, hlen]
        refine (refEncode_ok gl l o hf hl).use ?_
        simp
      | cons kk r =>
        have hlt' : i < ks.length := by have := congrArg List.length hd; simp at this; omega
        have hgl : ks[i]? = some kk := by rw [← List.head?_drop, hd]; rfl
        have hgki : (intsA ks)[i]'(by simpa using hlt') = .s (.int .i64 kk) := by
          have : (intsA ks)[i]? = some (.s (.int .i64 kk)) := by simp [intsA, hgl]
          exact (List.getElem?_eq_some_iff.1 this).2
        have hkm := hlt kk (List.mem_of_getElem? hgl)
        have hdr : ks.drop (i + 1) = r := by rw [← List.drop_drop, hd]; rfl
        obtain ⟨kn, rfl⟩ : ∃ n : Nat, kk = (n : Int) := ⟨kk.toNat, by omega⟩
        have hkn : kn < t.cols.length := by omega
        obtain ⟨c, hcg⟩ : ∃ c, t.cols[kn]? = some c := ⟨t.cols[kn], by simp [hkn]⟩
        have hgci : (csA t.cols)[kn]'(by simpa using hkn) = cA c := by
          have : (csA t.cols)[kn]? = some (cA c) := by simp [csA, hcg]
          exact (List.getElem?_eq_some_iff.1 this).2
        simp only [cA, strV] at hgci
        cases hdl : l.drop i with
        | nil => exfalso; have := List.drop_eq_nil_iff.1 hdl; omega
        | cons v rv =>
          obtain ⟨hltv, hglv, hgv, hdrv, hmem⟩ := vsA_get hdl
          have e2 : IntKind.i64.wrap ((i : Int) + 1) = (i : Int) + 1 := wrap_i64_in _ (by omega) (by omega)
          simp only [vA, strV] at hgv
          have hgvi := (List.getElem?_eq_some_iff.1 hgv).2
          rw [hd, hdl] at hx
          simp only [koR, Int.toNat_natCast, hcg, Option.map_some, Option.getD_some] at hx
          simp [h7, h6, h1, h2, hgki, hgvi, hlt', hltv, e2]
          have hvv := refValid_ok gl v (by have := (hf v hmem).t; omega)
          simp only [vA, strV] at hvv
          refine hvv.use ?_
          by_cases hval : v.valid = 0
          · rw [if_neg (by simp [hval])] at hx
            simp [h7, h6, h1, h2, e2, hval]
            refine W_all 23 rfl hmix (by kernel_rfl) (by kernel_rfl) ?_
            by_cases hkk : v.k = c.kind
            · by_cases h0 : v.k = 0
              · rw [if_pos (.inr h0)] at hx
                rw [if_pos (by simp [← hx])] at hR
                subst hR
                simp [h7, h6, h1, h2, hgki, hgvi, hgci, hkn, hlt', hltv, e2, h0, ← hx]
              · rw [if_neg (by simp [hkk]; rw [← hkk]; exact h0)] at hx
                simp [h7, h6, h1, h2, hgki, hgvi, hgci, hkn, hlt', hltv, e2, hkk]
                refine ⟨fun h => absurd (hkk.trans h) h0, fun _ => ⟨ks.length - (i + 1), by omega, ?_⟩⟩
                rw [hI]
                exact ⟨i + 1, rfl, by omega, by simp, by simp [h6], by simp [h1], by simp [h2, strV], by simp, by rw [hdr, hdrv]; exact hx⟩
            · rw [if_pos (.inl hkk)] at hx
              rw [if_pos (by simp [← hx])] at hR
              subst hR
              simp [h7, h6, h1, h2, hgki, hgvi, hgci, hkn, hlt', hltv, e2, hkk, ← hx]
          · rw [if_pos hval] at hx
            rw [if_pos (by rw [← hx]; exact hval)] at hR
            subst hR
            simp [h7, h6, h1, h2, e2, hval, ← hx]

theorem refRowEncode_ok (gl : Nat → AV) (t : Tb) (l : List V) (o : Option (Nat × Own)) (hf : ∀ v ∈ l, v.fits) (hl : l.length ≤ 2 ^ 30) (hc : t.cols.length ≤ 2 ^ 30) :
    PureA Tryz.prog gl 26 [tA t, .lst 4 (vsA l) o] (.tup [.lst 1 (bytesA (rowE t l).1) none, .s (.int .i64 (rowE t l).2)]) := by
  refine PureA.ofSub ?_
  refine calls_of_code (C := ⟨Tryz.prog, gl, 68, [7]⟩) (fn := Tryz.f26) rfl rfl rfl (by simp) (vc_sound _ _ _ _ ?_)
  simp [Tryz.f26, tA]
  have hck := refCheck_ok gl t l o hf (by omega) (by omega)
  simp only [tA, strV] at hck
  refine hck.use ?_
  unfold rowE
  by_cases hok : chkE t l = 0
  · rw [if_neg (by simp [hok])]
    have hlen : l.length = t.cols.length := by
      by_cases h : l.length = t.cols.length
      · exact h
      · rw [chkE, if_pos h] at hok; cases hok
    have hv : ∀ v ∈ l, v.valid = 0 := by
      rw [chkE, if_neg (by omega)] at hok
      exact chkR_all _ _ hlen.symm hok
    simp [hok]
    refine W_nilOwn 7 5 1 1000 (by simp) ?_
    obtain ⟨I, hI⟩ : ∃ I : Nat → Env → AHeap → Prop, I = fun k E H => ∃ (i : Nat) (xs : List UInt8), k = l.length - i ∧ i ≤ l.length ∧ E 8 = .s (.int .i64 i) ∧ E 1 = .lst 4 (vsA l) o ∧ ownAt E H 7 5 1 (bytesA xs) ∧ xs = rowBs (l.take i) ∧ xs.length ≤ 4200 * i := ⟨_, rfl⟩
    refine W_loop I l.length ?_ ?_
    · rw [hI]
      exact ⟨0, [], rfl, by omega, by simp, by simp [argE], ⟨1000, .nil, by simp [bytesA], by simp⟩, by simp [rowBs], by simp⟩
    · intro k E H hi0
      rw [hI] at hi0
      obtain ⟨i, xs, rfl, hi, h8, h1, ho, hx, hxl⟩ := hi0
      refine W_norm 7 1000 ho fun q => vc_sound _ _ _ _ ?_
      cases hd : l.drop i with
      | nil =>
        have : i = l.length := by have := List.drop_eq_nil_iff.1 hd; omega
        subst this
        rw [List.take_length] at hx
        simp [h8, h1, hx]
        exact Sub.tup2 (Sub.drop _ _ _) (Sub.refl _)
      | cons v r =>
        obtain ⟨hlt, hgl, hg, hdr, hmem⟩ := vsA_get hd
        have e2 : IntKind.i64.wrap ((i : Int) + 1) = (i : Int) + 1 := wrap_i64_in _ (by omega) (by omega)
        have hvk := valid_kind v (hv v hmem)
        have hvf := hf v hmem
        simp only [vA, strV] at hg
        have hgi := (List.getElem?_eq_some_iff.1 hg).2
        have hnext : xs ++ rowB v = rowBs (l.take (i + 1)) := by
          rw [List.take_add_one, hgl, hx]; simp [rowBs]
        have hev := rowB_len v hvf (hv v hmem)
        have hxs : xs.length ≤ 2 ^ 44 := by omega
        rcases (show v.k = 0 ∨ v.k = 1 ∨ v.k = 2 ∨ v.k = 3 by omega) with hk | hk | hk | hk
        · simp [h8, h1, hgi, hlt, e2, hk]
          refine ⟨by decide, by omega, by omega, fun q' => ⟨l.length - (i + 1), by omega, ?_⟩⟩
          rw [hI]
          exact ⟨i + 1, xs ++ rowB v, rfl, by omega, by simp, by simp [h1], ⟨31, q', by simp [rowB, hk, bytesA_app, bytesA, byteA], by simp [rowB, hk]⟩, hnext, by rw [List.length_append]; omega⟩
        · simp [h8, h1, hgi, hlt, e2, hk]
          refine W_chunks [([0,1,3,4,5,6,7],2,[7]),([],8,[]),([],9,[7]),([],10,[])] [] hmix (by kernel_rfl) (by kernel_rfl) (by kernel_rfl) ?_
          simp [h8, h1, hgi, hlt, e2, hk, pureG, pureO, opVal]
          refine ⟨by decide, by omega, by omega, fun q' => ?_⟩
          refine (refInts_ok gl 42 v.n hvf.n1 hvf.n2).own fun q2 => ?_
          have hu := uintB_len 9 (zig v.n) (by have := zig_lt v.n hvf.n1 hvf.n2; omega)
          simp [h8, h1, hgi, hlt, e2, hk, pureG, pureO, opVal]
          refine ⟨by omega, by omega, fun q3 => ⟨l.length - (i + 1), by omega, ?_⟩⟩
          rw [hI]
          exact ⟨i + 1, xs ++ rowB v, rfl, by omega, by simp, by simp [h1], ⟨43, q3, by simp [rowB, hk, bytesA_app, bytesA, byteA], by simp [rowB, hk]; omega⟩, hnext, by rw [List.length_append]; omega⟩
        · simp [h8, h1, hgi, hlt, e2, hk]
          refine W_chunks [([0,1,3,4,5,6,7],2,[7]),([],8,[]),([],9,[7]),([],10,[])] [] hmix (by kernel_rfl) (by kernel_rfl) (by kernel_rfl) ?_
          simp [h8, h1, hgi, hlt, e2, hk, pureG, pureO, opVal]
          refine ⟨by decide, by omega, by omega, fun q' => ?_⟩
          have ht := texts_ok gl 54 v.t (by omega)
          simp only [strV] at ht
          refine ht.own fun q2 => ?_
          have hu := uintB_len 9 v.t.length (by omega)
          simp [h8, h1, hgi, hlt, e2, hk, pureG, pureO, opVal]
          refine ⟨by omega, by omega, fun q3 => ⟨l.length - (i + 1), by omega, ?_⟩⟩
          rw [hI]
          exact ⟨i + 1, xs ++ rowB v, rfl, by omega, by simp, by simp [h1], ⟨55, q3, by simp [rowB, hk, bytesA_app, bytesA, byteA], by simp [rowB, hk]; omega⟩, hnext, by rw [List.length_append]; omega⟩
        · simp [h8, h1, hgi, hlt, e2, hk]
          refine ⟨fun hb => ⟨by decide, by decide, by omega, by omega, fun q' => ⟨l.length - (i + 1), by omega, ?_⟩⟩, fun hb => ⟨by decide, by decide, by omega, by omega, fun q' => ⟨l.length - (i + 1), by omega, ?_⟩⟩⟩
          · rw [hI]
            exact ⟨i + 1, xs ++ rowB v, rfl, by omega, by simp, by simp [h1], ⟨66, q', by simp [rowB, hk, bytesA_app, bytesA, byteA, hb], by simp [rowB, hk]⟩, hnext, by rw [List.length_append]; omega⟩
          · rw [hI]
            exact ⟨i + 1, xs ++ rowB v, rfl, by omega, by simp, by simp [h1], ⟨66, q', by simp [rowB, hk, bytesA_app, bytesA, byteA, hb], by simp [rowB, hk]⟩, hnext, by rw [List.length_append]; omega⟩
  · rw [if_pos hok]
    simp [hok]
    exact Sub.tup2 (Sub.nil _) (Sub.refl _)
end Go.Proofs.YtjhnabdcmfjeoaaGreatDoor.Ab
