/- The contract of the document's answer: a done change encoded. Own work. -/
import Derived.Test.YtjhnabdcmfjeoaaGreatDoorYR
import Derived.Test.YtjhnabdcmfjeoaaGreatDoorYM
set_option linter.unusedSimpArgs false
set_option linter.unusedVariables false
namespace Go.Proofs.YtjhnabdcmfjeoaaGreatDoor.Ab
open Go

set_option maxRecDepth 20000
theorem refEncDone_ok (gl : Nat → AV) (l : List Tb) (o : Option (Nat × Own)) (d : Dn) (hl : ∀ t ∈ l, t.cols.length ≤ 2 ^ 30) (hll : l.length ≤ 2 ^ 40) (hf : d.fits) :
    PureA Tryz.prog gl 9 [.lst 2 (tsA l) o, dA d] (.tup [.lst 1 (bytesA (encD l d).1) none, .s (.int .i64 (encD l d).2)]) := by
  refine PureA.ofSub ?_
  refine calls_of_code (C := ⟨Tryz.prog, gl, 118, [7]⟩) (fn := Tryz.f9) rfl rfl rfl (by simp) (vc_sound _ _ _ _ ?_)
  unfold encD
  by_cases hbad : d.number < 1 ∨ 16 < d.deps.length
  · rw [if_pos hbad]
    by_cases h1 : d.number < 1
    · simp [Tryz.f9, dA, h1]
      exact Sub.tup2 (Sub.nil _) (Sub.refl _)
    · have h : (16 : Int) < d.deps.length := by omega
      simp [Tryz.f9, dA, h1, h]
      exact Sub.tup2 (Sub.nil _) (Sub.refl _)
  · rw [if_neg hbad]
    have h1 : ¬ d.number < 1 := fun h => hbad (.inl h)
    have h2 : ¬ (16 : Int) < d.deps.length := fun h => hbad (.inr (by omega))
    obtain ⟨num, hnum⟩ : ∃ n : Nat, d.number = n := ⟨d.number.toNat, by omega⟩
    have hnl := hf.n1
    have hu1 := uintB_len 9 num (by omega)
    have hu2 := uintB_len 9 d.deps.length (by omega)
    have hd16 : d.deps.length ≤ 16 := by omega
    generalize hR : (if d.deps.any (fun n => decide (n < 0)) = true then (([], 1) : List UInt8 × Nat) else wrsR l d.writes (headB d)) = R
    simp [Tryz.f9, dA, h1, h2]
    obtain ⟨I, hI⟩ : ∃ I : Nat → Env → AHeap → Prop, I = fun k E H => ∃ (i : Nat), k = d.deps.length - i ∧ i ≤ d.deps.length ∧ E 6 = .s (.int .i64 i) ∧ E 0 = .lst 2 (tsA l) o ∧
      E 3 = .rp [.s (.int .i64 d.label), .s (.int .i64 d.number), .lst 1 (intsA d.deps) none, .lst 3 (wsA d.writes) none] ∧ H = [] ∧ (∀ n ∈ d.deps.take i, 0 ≤ n) := ⟨_, rfl⟩
    refine W_loopN [] (by decide) I d.deps.length ?_ ?_
    · rw [hI]
      exact ⟨0, rfl, by omega, by simp, by simp [argE], by simp, by simp, by simp⟩
    · intro k E H hi0
      rw [hI] at hi0
      obtain ⟨i, rfl, hi, h6, h0, h3, rfl, hneg⟩ := hi0
      refine vc_sound _ _ _ _ ?_
      cases hd : d.deps.drop i with
      | cons n r =>
        obtain ⟨hlt, hg, hga, hdr, hm'⟩ := intsA_get hd
        have hgi := (List.getElem?_eq_some_iff.1 hga).2
        have e2 : IntKind.i64.wrap ((i : Int) + 1) = (i : Int) + 1 := wrap_i64_in _ (by omega) (by omega)
        by_cases hn0 : n < 0
        · have hany : d.deps.any (fun n => decide (n < 0)) = true := List.any_eq_true.2 ⟨n, hm', by simpa using hn0⟩
          rw [if_pos hany] at hR
          subst hR
          simp [h6, h0, h3, hlt, hgi, hn0]
          exact Sub.tup2 (Sub.nil _) (Sub.refl _)
        · simp [h6, h0, h3, hlt, hgi, hn0, e2]
          refine ⟨d.deps.length - (i + 1), by omega, ?_⟩
          rw [hI]
          refine ⟨i + 1, rfl, by omega, by simp, by simp [h0], by simp [h3], by simp, fun x hx => ?_⟩
          rw [List.take_add_one, hg] at hx
          rcases List.mem_append.1 hx with hx | hx
          · exact hneg x hx
          · simp at hx; omega
      | nil =>
        have : i = d.deps.length := by have := List.drop_eq_nil_iff.1 hd; omega
        subst this
        rw [List.take_length] at hneg
        have hanyf : ¬ (d.deps.any (fun n => decide (n < 0)) = true) := by
          intro h
          obtain ⟨n, hn, hn2⟩ := List.any_eq_true.1 h
          have := hneg n hn
          simp at hn2; omega
        rw [if_neg hanyf] at hR
        subst hR
        have hwl := hf.wlen
        have hu3 := uintB_len 9 d.writes.length (by omega)
        have hdl := depsB_len d.deps hf.deps
        have hone : AV.lst 1 [AV.s (.int .u8 1)] none = AV.lst 1 (bytesA [1]) none := rfl
        simp [h6, h0, h3]
        rw [hone, show AV.lst 1 [AV.s (.int .i64 d.number), AV.s (.int .i64 d.deps.length)] none = AV.lst 1 (intsA [d.number, (d.deps.length : Int)]) none from rfl]
        refine ⟨by decide, by decide, by decide, (counts_ok gl 46 [1] [d.number, (d.deps.length : Int)] none none (by simp) (by simp) (by simp; omega)).own fun q => ?_⟩
        simp [h6, h0, h3]
        have hb1 : depsB [d.number, (d.deps.length : Int)] = uintB num ++ uintB d.deps.length := by simp [depsB, hnum]
        rw [hb1]
        refine W_chunks [([0,1,2,4,5,6,7],3,[5]),([],8,[2,5]),([],9,[])] [] hmix (by kernel_rfl) (by kernel_rfl) (by kernel_rfl) ?_
        simp [h6, h0, h3, pureG, pureO, opVal]
        refine ⟨by decide, (counts_ok gl 50 (1 :: (uintB num ++ uintB d.deps.length)) d.deps _ none (by simp; omega) (by omega) fun n hn => ⟨hneg n hn, hf.deps n hn⟩).own fun q2 => ?_⟩
        simp [h6, h0, h3, pureG, pureO, opVal]
        rw [show AV.lst 1 [AV.s (.int .i64 d.writes.length)] none = AV.lst 1 (intsA [(d.writes.length : Int)]) none from rfl]
        refine (counts_ok gl 55 (1 :: (uintB num ++ (uintB d.deps.length ++ depsB d.deps))) [(d.writes.length : Int)] _ none (by simp; omega) (by simp) (by simp; omega)).own fun q3 => ?_
        have hb2 : depsB [(d.writes.length : Int)] = uintB d.writes.length := by simp [depsB]
        rw [hb2]
        simp [h6, h0, h3, pureG, pureO, opVal]
        have hhead : 1 :: (uintB num ++ (uintB d.deps.length ++ (depsB d.deps ++ uintB d.writes.length))) = headB d := by simp [headB, hnum]
        rw [hhead]
        have hheadl : (headB d).length ≤ 300 := by rw [← hhead]; simp; omega
        obtain ⟨J, hJ⟩ : ∃ J : Nat → Env → AHeap → Prop, J = fun k E H => ∃ (i : Nat) (xs : List UInt8), k = d.writes.length - i ∧ i ≤ d.writes.length ∧ E 8 = .s (.int .i64 i) ∧ E 0 = .lst 2 (tsA l) o ∧
          E 3 = .rp [.s (.int .i64 d.label), .s (.int .i64 d.number), .lst 1 (intsA d.deps) none, .lst 3 (wsA d.writes) none] ∧ ownAt E H 7 5 1 (bytesA xs) ∧
          xs.length + 70000 * (d.writes.length - i) + 4200 * rsum (d.writes.drop i) ≤ 300 + 70000 * d.writes.length + 4200 * rsum d.writes ∧ wrsR l (d.writes.drop i) xs = wrsR l d.writes (headB d) := ⟨_, rfl⟩
        refine W_loop J d.writes.length ?_ ?_
        · rw [hJ]
          exact ⟨0, headB d, rfl, by omega, by simp, by simp [h0], by simp [h3], ⟨55, q3, by simp, by simp [← hhead]⟩, by simp; omega, by simp⟩
        · intro k E H hi0
          rw [hJ] at hi0
          obtain ⟨i, xs, rfl, hi, h8, h0, h3, ho, hxl, hw⟩ := hi0
          refine W_norm 7 1000 ho fun q => vc_sound _ _ _ _ ?_
          cases hd : d.writes.drop i with
          | nil =>
            have : i = d.writes.length := by have := List.drop_eq_nil_iff.1 hd; omega
            subst this
            rw [hd] at hw
            simp only [wrsR] at hw
            simp [h8, h0, h3, ← hw]
            exact Sub.tup2 (Sub.drop _ _ _) (Sub.refl _)
          | cons w r =>
            have hlt : i < d.writes.length := by have := congrArg List.length hd; simp at this; omega
            have hgl : d.writes[i]? = some w := by rw [← List.head?_drop, hd]; rfl
            have hgi : (wsA d.writes)[i]'(by simpa using hlt) = wA w := by
              have : (wsA d.writes)[i]? = some (wA w) := by simp [wsA, hgl]
              exact (List.getElem?_eq_some_iff.1 this).2
            have hdr : d.writes.drop (i + 1) = r := by rw [← List.drop_drop, hd]; rfl
            have hmem : w ∈ d.writes := List.mem_of_getElem? hgl
            obtain ⟨hrl, hrf⟩ := hf.rows w hmem
            have e2 : IntKind.i64.wrap ((i : Int) + 1) = (i : Int) + 1 := wrap_i64_in _ (by omega) (by omega)
            have hall := hf.all
            have hrs : rsum (d.writes.drop i) = w.row.length + rsum (d.writes.drop (i + 1)) := by rw [hd, hdr]; rfl
            rw [hrs] at hxl
            rw [hd] at hw
            simp only [wrsR] at hw
            have hwl := wrB_len l w hrf hrl hll
            simp only [wA, strV] at hgi
            simp [h8, h0, h3, hgi, hlt]
            intro b1
            refine (refFind_ok gl l w.table o hll).use ?_
            have hlt2 := tbIdx_lt w.table l 0
            cases hti : tbIdx l w.table 0 with
            | none =>
              have hfe : findE l w.table = (0, 30) := by simp [findE, hti]
              have hwb : (wrB l w) = ([], 30) := by simp [wrB, findT, hti]
              rw [hfe]
              simp [hwb] at hw
              simp [h8, h0, h3, ← hw]
              exact Sub.tup2 (Sub.nil _) (Sub.refl _)
            | some n =>
              have hn := hlt2 n hti
              have hfe : findE l w.table = (n, 0) := by simp [findE, hti]
              obtain ⟨t, htg⟩ : ∃ t, l[n]? = some t := ⟨l[n]'(by omega), by simp⟩
              have hft : findT l w.table = (n, t, 0) := by simp [findT, hti, htg]
              have htm : t ∈ l := List.mem_of_getElem? htg
              have hgt : (tsA l)[n]'(by simp; omega) = tA t := by
                have : (tsA l)[n]? = some (tA t) := by simp [tsA, htg]
                exact (List.getElem?_eq_some_iff.1 this).2
              simp only [tA, strV] at hgt
              rw [hfe]
              simp [h8, h0, h3]
              cases hgone : w.gone with
              | true =>
                simp [h8, h0, h3]
                refine W_chunks [([0, 1, 2, 3, 4, 5], 6, [])] [7, 8, 9, 10, 11] hmix (by kernel_rfl) (by kernel_rfl) (by kernel_rfl) ?_
                have hn2 : n < l.length := by omega
                simp [h8, h0, h3, hgt, hgone, hn2, pureG, pureO, opVal]
                have hke := refKeyOf_ok gl t w.row none hrf (by omega) (by have := hl t htm; omega)
                simp only [tA, strV] at hke
                refine hke.use ?_
                have hwb : wrB l w = if (keyE t w.row).2 ≠ 0 then ([], (keyE t w.row).2) else (uintB n ++ 1 :: (uintB (keyE t w.row).1.length ++ (keyE t w.row).1), 0) := by simp [wrB, hft, hgone]
                rw [hwb] at hw hwl
                generalize keyE t w.row = R at hw hwl ⊢
                obtain ⟨kb, ke⟩ := R
                simp only at hw hwl
                by_cases hke0 : ke = 0
                · subst hke0
                  simp at hw hwl
                  have hun := uintB_len 9 n (by omega)
                  have hkl : kb.length ≤ 2 ^ 40 := by omega
                  simp [h8, h0, h3]
                  rw [show AV.lst 1 [AV.s (.int .i64 n)] none = AV.lst 1 (intsA [(n : Int)]) none from rfl]
                  refine ⟨by decide, (counts_ok gl 109 xs [(n : Int)] _ none (by omega) (by simp) (by simp; omega)).own fun q2 => ?_⟩
                  have hb3 : depsB [(n : Int)] = uintB n := by simp [depsB]
                  rw [hb3]
                  simp [h8, h0, h3]
                  refine ⟨by decide, by omega, by omega, fun q3 => ?_⟩
                  have ht := texts_ok gl 115 kb (by omega)
                  simp only [strV] at ht
                  refine ht.own fun q4 => ?_
                  have hu2 := uintB_len 9 kb.length (by omega)
                  simp [h8, h0, h3, e2]
                  refine ⟨by omega, by omega, fun q5 => ⟨d.writes.length - (i + 1), by omega, ?_⟩⟩
                  rw [hJ]
                  refine ⟨i + 1, xs ++ (uintB n ++ 1 :: (uintB kb.length ++ kb)), rfl, by omega, by simp, by simp [h0], by simp [h3], ⟨116, q5, by simp [bytesA_app, bytesA, byteA], by simp; omega⟩, ?_, by rw [hdr]; exact hw⟩
                  simp; omega
                · simp [hke0] at hw
                  simp [h8, h0, h3, hke0, ← hw]
                  exact Sub.tup2 (Sub.nil _) (Sub.refl _)
              | false =>
                simp [h8, h0, h3]
                refine W_chunks [([0, 1, 2, 3, 4, 5], 6, [])] [7, 8, 9, 10, 11] hmix (by kernel_rfl) (by kernel_rfl) (by kernel_rfl) ?_
                have hn2 : n < l.length := by omega
                simp [h8, h0, h3, hgt, hgone, hn2, pureG, pureO, opVal]
                have hke := refRowEncode_ok gl t w.row none hrf (by omega) (hl t htm)
                simp only [tA, strV] at hke
                refine hke.use ?_
                have hwb : wrB l w = if (rowE t w.row).2 ≠ 0 then ([], (rowE t w.row).2) else (uintB n ++ 0 :: (uintB (rowE t w.row).1.length ++ (rowE t w.row).1), 0) := by simp [wrB, hft, hgone]
                rw [hwb] at hw hwl
                generalize rowE t w.row = R at hw hwl ⊢
                obtain ⟨kb, ke⟩ := R
                simp only at hw hwl
                by_cases hke0 : ke = 0
                · subst hke0
                  simp at hw hwl
                  have hun := uintB_len 9 n (by omega)
                  have hkl : kb.length ≤ 2 ^ 40 := by omega
                  simp [h8, h0, h3]
                  rw [show AV.lst 1 [AV.s (.int .i64 n)] none = AV.lst 1 (intsA [(n : Int)]) none from rfl]
                  refine ⟨by decide, (counts_ok gl 109 xs [(n : Int)] _ none (by omega) (by simp) (by simp; omega)).own fun q2 => ?_⟩
                  have hb3 : depsB [(n : Int)] = uintB n := by simp [depsB]
                  rw [hb3]
                  simp [h8, h0, h3]
                  refine ⟨by decide, by omega, by omega, fun q3 => ?_⟩
                  have ht := texts_ok gl 115 kb (by omega)
                  simp only [strV] at ht
                  refine ht.own fun q4 => ?_
                  have hu2 := uintB_len 9 kb.length (by omega)
                  simp [h8, h0, h3, e2]
                  refine ⟨by omega, by omega, fun q5 => ⟨d.writes.length - (i + 1), by omega, ?_⟩⟩
                  rw [hJ]
                  refine ⟨i + 1, xs ++ (uintB n ++ 0 :: (uintB kb.length ++ kb)), rfl, by omega, by simp, by simp [h0], by simp [h3], ⟨116, q5, by simp [bytesA_app, bytesA, byteA], by simp; omega⟩, ?_, by rw [hdr]; exact hw⟩
                  simp; omega
                · simp [hke0] at hw
                  simp [h8, h0, h3, hke0, ← hw]
                  exact Sub.tup2 (Sub.nil _) (Sub.refl _)
end Go.Proofs.YtjhnabdcmfjeoaaGreatDoor.Ab
/- The contract of the document's answer: a done change decoded. Own work. -/
set_option linter.unusedSimpArgs false
set_option linter.unusedVariables false
namespace Go.Proofs.YtjhnabdcmfjeoaaGreatDoor.Ab
open Go

theorem CallsA.argsSub {P : Program} {gl : Nat → AV} {f : FuncId} {args args' : List AV} {H : AHeap} {R : AV → AHeap → Prop} (hs : SubC args args') (h : CallsA P gl f args' H R) : CallsA P gl f args H R :=
  fun im w vs h1 h2 h3 => h im w vs ⟨hs.1 ▸ h1.1, fun i c v hc hv => by
    have hlt : i < args.length := by rw [hs.1]; exact (List.getElem?_eq_some_iff.1 hc).1
    exact hs.2 i args[i] c (by simp [hlt]) hc im v (h1.2 i args[i] v (by simp [hlt]) hv)⟩ h2 h3
theorem PureA.argsSub {P : Program} {gl : Nat → AV} {f : FuncId} {args args' : List AV} {v : AV} (hs : SubC args args') (h : PureA P gl f args' v) : PureA P gl f args v := CallsA.argsSub hs h
theorem sub_noDnR : Sub (.agg [.s (.int .i64 0), .s (.int .i64 0), .s (.slice none 0 0), .s (.slice none 0 0)]) (dA noDn) := SubC.agg (SubC.cons (Sub.refl _) (SubC.cons (Sub.refl _) (SubC.cons (Sub.nil _) (SubC.cons (Sub.nil _) SubC.nil))))

set_option maxRecDepth 20000
theorem refDecDone_ok (gl : Nat → AV) (ts : List Tb) (b : List UInt8) (o o' : Option (Nat × Own)) (hb : b.length ≤ 2 ^ 20) (hts : ∀ t ∈ ts, t.cols.length ≤ 2 ^ 30) (hll : ts.length ≤ 2 ^ 40) (hk : ∀ t ∈ ts, ∀ c ∈ t.cols, -9223372036854775808 ≤ c.kind ∧ c.kind ≤ 9223372036854775807) :
    PureA Tryz.prog gl 11 [.lst 2 (tsA ts) o, .lst 1 (bytesA b) o'] (.tup [dA (decL ts b).1, .s (.int .i64 (decL ts b).2)]) := by
  refine PureA.ofSub ?_
  refine calls_of_code (C := ⟨Tryz.prog, gl, 162, []⟩) (fn := Tryz.f11) rfl rfl rfl (by simp) (vc_sound _ _ _ _ ?_)
  cases b with
  | nil =>
    simp [Tryz.f11, decL]
    exact fun b4 => Sub.tup2 sub_noDnR (Sub.refl _)
  | cons c r =>
    have hbc : bytesA (c :: r) = .s (.int .u8 c.toNat) :: bytesA r := rfl
    have hrl : r.length + 1 ≤ 2 ^ 20 := by simpa using hb
    by_cases hc1 : c.toNat = 1
    · have hcI : (c.toNat : Int) = 1 := by omega
      generalize hR : decL ts (c :: r) = R
      have hlz : ¬ ((r.length : Int) + 1 = 0) := by omega
      simp [Tryz.f11, hbc, hcI, hc1, hlz]
      refine fun b4 b6 => ⟨by omega, fun b7 => ?_⟩
      simp only [decL] at hR
      rw [if_neg (by simp [hc1])] at hR
      have hl1 := rdU_len (r, false) 9223372036854775807
      have hu1 := readUint_ok gl (r, false) 9223372036854775807 (by omega) (by omega) (by simp only; omega)
      have hn1 := rdU_le (r, false) 9223372036854775807 (by omega)
      have hfits := decL_fits ts r hrl
      simp only at hfits
      generalize rdU (r, false) 9223372036854775807 = s1 at hR hl1 hu1 hn1 hfits
      obtain ⟨⟨bs1, bad1⟩, num⟩ := s1
      simp only [rdV] at hu1
      simp only at hl1 hR hn1 hfits
      refine hu1.use ?_
      simp
      have hl2 := rdU_len (bs1, bad1) 16
      have hu2 := readUint_ok gl (bs1, bad1) 16 (by omega) (by omega) (by simp only; omega)
      have hn2 := rdU_le (bs1, bad1) 16 (by omega)
      generalize rdU (bs1, bad1) 16 = s2 at hR hl2 hu2 hn2 hfits
      obtain ⟨⟨bs2, bad2⟩, n⟩ := s2
      simp only [rdV] at hu2
      simp only at hl2 hR hn2 hfits
      refine hu2.use ?_
      simp
      refine W_pick [6, 7, 4] (by decide) ?_
      simp
      refine W_nilCell (l := 6) (b := b6) (k := 2) (U := 3) (sz := 1) (L := 56) rfl ?_
      obtain ⟨I, hI⟩ : ∃ I : Nat → Env → AHeap → Prop, I = fun k E H => ∃ (i : Nat) (bs : List UInt8) (bad : Bool) (acc : List Int) (q : Own), k = n - i ∧ i ≤ n ∧ E 9 = .s (.int .i64 i) ∧ E 8 = .s (.int .i64 n) ∧ E 0 = .lst 2 (tsA ts) o ∧ E 1 = .lst 1 (bytesA (c :: r)) o' ∧ E 6 = .ptr 6 b6 0 ∧ E 7 = .ptr 7 b7 0 ∧ E 4 = .ptr 4 b4 0 ∧
        H = [(56, .own 3 1 acc.length q), (6, .box b6 26 [.s (.int .i64 0), .s (.int .i64 num), .lst 1 (intsA acc) (some (56, q)), .s (.slice none 0 0)]), (7, .box b7 86 [.lst 1 (bytesA bs) none, .s (.bool bad)]), (4, .box b4 26 [.s (.int .i64 0), .s (.int .i64 0), .s (.slice none 0 0), .s (.slice none 0 0)])] ∧
        lDeps (n - i) (bs, bad) acc = lDeps n (bs2, bad2) [] ∧ bs.length ≤ bs2.length ∧ acc.length = i := ⟨_, rfl⟩
      refine W_loopN [56, 6, 7, 4] (by decide) I n ?_ ?_
      · rw [hI]
        exact ⟨0, bs2, bad2, [], .nil, rfl, by omega, by simp, by simp, by simp [argE], by simp [argE, hbc, hc1], by simp, by simp, by simp, by simp [intsA], rfl, Nat.le_refl _, rfl⟩
      · intro k E H hi0
        rw [hI] at hi0
        obtain ⟨i, bs, bad, acc, q, rfl, hi, h9, h8, h0, h1, h6, h7, h4, rfl, hdep, hsl, hal⟩ := hi0
        refine vc_sound _ _ _ _ ?_
        by_cases hlt : i < n
        · have e2 : IntKind.i64.wrap ((i : Int) + 1) = (i : Int) + 1 := wrap_i64_in _ (by omega) (by omega)
          simp [h9, h8, h0, h1, h6, h7, h4, hlt, e2]
          have hl3 := rdU_len (bs, bad) 9223372036854775807
          have hu3 := readUint_ok gl (bs, bad) 9223372036854775807 (by omega) (by omega) (by simp only; omega)
          have hdep' : lDeps (n - (i + 1)) (rdU (bs, bad) 9223372036854775807).1 (acc ++ [((rdU (bs, bad) 9223372036854775807).2 : Int)]) = lDeps n (bs2, bad2) [] := by
            rw [← hdep, show n - i = n - (i + 1) + 1 by omega]; rfl
          generalize rdU (bs, bad) 9223372036854775807 = s3 at hl3 hu3 hdep'
          obtain ⟨⟨bs3, bad3⟩, v⟩ := s3
          simp only [rdV] at hu3
          simp only at hl3 hdep'
          refine hu3.use ?_
          simp [h9, h8, h0, h1, h6, h7, h4, hlt, e2]
          refine ⟨by decide, by omega, by omega, fun q' => ⟨n - (i + 1), by omega, ?_⟩⟩
          rw [hI]
          exact ⟨i + 1, bs3, bad3, acc ++ [(v : Int)], q', rfl, by omega, by simp, by simp [h8], by simp [h0], by simp [h1], by simp [h6], by simp [h7], by simp [h4], by simp [intsA], hdep', by omega, by simp [hal]⟩
        · have hin : i = n := by omega
          subst hin
          rw [Nat.sub_self] at hdep
          simp only [lDeps] at hdep
          rw [← hdep] at hR hfits
          simp only at hR hfits
          have e3 : IntKind.u64.wrap ((r.length : Int) + 1) = ((r.length + 1 : Nat) : Int) := by rw [wrap_u64_in _ (by omega) (by omega)]; simp
          simp [h9, h8, h0, h1, h6, h7, h4, e3]
          have hl4 := rdU_len (bs, bad) (r.length + 1 : Nat)
          have hu4 := readUint_ok gl (bs, bad) (r.length + 1 : Nat) (by omega) (by omega) (by simp only; omega)
          have hn4 := rdU_le (bs, bad) (r.length + 1 : Nat) (by omega)
          generalize rdU (bs, bad) (r.length + 1 : Nat) = s4 at hR hl4 hu4 hn4 hfits
          obtain ⟨⟨bs4, bad4⟩, k⟩ := s4
          simp only [rdV] at hu4
          simp only at hl4 hR hn4 hfits
          push_cast at hu4
          refine hu4.use ?_
          simp [h9, h8, h0, h1, h6, h7, h4]
          refine W_pick [56, 6, 7, 4] (by decide) ?_
          simp
          refine W_perm (List.Perm.swap _ _ _) ?_
          refine W_nilCell (l := 6) (b := b6) (k := 3) (U := 68) (sz := 3) (L := 139) rfl ?_
          obtain ⟨J, hJ⟩ : ∃ J : Nat → Env → AHeap → Prop, J = fun m E H => ∃ (j : Nat) (bs : List UInt8) (bad : Bool) (ws : List Wr) (p : Own), m = k - j ∧ j ≤ k ∧ E 11 = .s (.int .i64 j) ∧ E 8 = .s (.int .i64 k) ∧ E 0 = .lst 2 (tsA ts) o ∧ E 1 = .lst 1 (bytesA (c :: r)) o' ∧ E 6 = .ptr 6 b6 0 ∧ E 7 = .ptr 7 b7 0 ∧ E 4 = .ptr 4 b4 0 ∧
            H = [(139, .own 68 3 ws.length p), (56, .own 3 1 acc.length q), (6, .box b6 26 [.s (.int .i64 0), .s (.int .i64 num), .lst 1 (intsA acc) (some (56, q)), .lst 3 (wsA ws) (some (139, p))]), (7, .box b7 86 [.lst 1 (bytesA bs) none, .s (.bool bad)]), (4, .box b4 26 [.s (.int .i64 0), .s (.int .i64 0), .s (.slice none 0 0), .s (.slice none 0 0)])] ∧
            lWrites ts (k - j) (bs, bad) ws = lWrites ts k (bs4, bad4) [] ∧ bs.length ≤ bs4.length ∧ ws.length = j := ⟨_, rfl⟩
          refine W_loopN [139, 56, 6, 7, 4] (by decide) J k ?_ ?_
          · rw [hJ]
            exact ⟨0, bs4, bad4, [], .nil, rfl, by omega, by simp, by simp, by simp [h0], by simp [h1], by simp [h6], by simp [h7], by simp [h4], by simp [wsA], rfl, Nat.le_refl _, rfl⟩
          · clear h9 h8 h0 h1 h6 h7 h4
            intro m E H hj0
            rw [hJ] at hj0
            obtain ⟨j, bs', bad', ws, p, rfl, hj, h11, h8, h0, h1, h6, h7, h4, rfl, hdep2, hsl2, hwl⟩ := hj0
            refine vc_sound _ _ _ _ ?_
            by_cases hstop : ¬ j < k ∨ bad' = true
            · have hd2 : lWrites ts k (bs4, bad4) [] = some ((bs', bad'), ws) := by
                rw [← hdep2]
                rcases hstop with h | h
                · rw [show k - j = 0 by omega]; rfl
                · cases hm : k - j with
                  | zero => rfl
                  | succ m => simp [lWrites, h]
              have hfit := hfits _ ws hd2
              have he := refEncDone_ok gl ts o ⟨0, num, acc, ws⟩ hts hll hfit
              simp only [dA] at he
              rw [hd2] at hR
              simp only at hR
              generalize encD ts ⟨0, num, acc, ws⟩ = X at hR he
              obtain ⟨eb, ee⟩ := X
              simp only at he
              have hargs : SubC [AV.lst 2 (tsA ts) o, AV.agg [.s (.int .i64 0), .s (.int .i64 num), .lst 1 (intsA acc) (some (56, q)), .lst 3 (wsA ws) (some (139, p))]] [AV.lst 2 (tsA ts) o, AV.agg [.s (.int .i64 0), .s (.int .i64 num), .lst 1 (intsA acc) none, .lst 3 (wsA ws) none]] :=
                SubC.cons (Sub.refl _) (SubC.cons (SubC.agg (SubC.cons (Sub.refl _) (SubC.cons (Sub.refl _) (SubC.cons (Sub.drop _ _ _) (SubC.cons (Sub.drop _ _ _) SubC.nil))))) SubC.nil)
              have he' := PureA.argsSub hargs he
              have hlast : Sub (.agg [.s (.int .i64 0), .s (.int .i64 num), .lst 1 (intsA acc) (some (56, q)), .lst 3 (wsA ws) (some (139, p))]) (dA ⟨0, num, acc, ws⟩) := SubC.agg (SubC.cons (Sub.refl _) (SubC.cons (Sub.refl _) (SubC.cons (Sub.drop _ _ _) (SubC.cons (Sub.drop _ _ _) SubC.nil))))
              by_cases hltj : (j : Int) < k
              · have hbt : bad' = true := hstop.resolve_left (by omega)
                subst hbt
                simp at hR
                subst hR
                simp [h11, h8, h0, h1, h6, h7, h4, hltj]
                refine he'.use ?_
                simp [h11, h8, h0, h1, h6, h7, h4, hltj]
                exact Sub.tup2 sub_noDnR (Sub.refl _)
              · simp [h11, h8, h0, h1, h6, h7, h4, hltj]
                refine he'.use ?_
                cases bad' with
                | true =>
                  simp at hR
                  subst hR
                  simp [h11, h8, h0, h1, h6, h7, h4, hltj]
                  exact Sub.tup2 sub_noDnR (Sub.refl _)
                | false =>
                  by_cases hee : ee = 0
                  · subst hee
                    by_cases heb : eb = c :: r
                    · subst heb
                      simp at hR
                      subst hR
                      simp [h11, h8, h0, h1, h6, h7, h4, hltj]
                      exact Sub.tup2 hlast (Sub.refl _)
                    · simp [heb] at hR
                      subst hR
                      simp [h11, h8, h0, h1, h6, h7, h4, hltj, heb]
                      exact Sub.tup2 sub_noDnR (Sub.refl _)
                  · simp [hee] at hR
                    subst hR
                    simp [h11, h8, h0, h1, h6, h7, h4, hltj, hee]
                    exact Sub.tup2 sub_noDnR (Sub.refl _)
            · simp only [not_or, Decidable.not_not, Bool.not_eq_true] at hstop
              obtain ⟨hlt, hbf⟩ := hstop
              subst hbf
              have hltI : (j : Int) < k := by omega
              have e2 : IntKind.i64.wrap ((j : Int) + 1) = (j : Int) + 1 := wrap_i64_in _ (by omega) (by omega)
              simp [h11, h8, h0, h1, h6, h7, h4, hlt, e2]
              have hl5 := rdU_len (bs', false) 1000
              have hu5 := readUint_ok gl (bs', false) 1000 (by omega) (by omega) (by simp only; omega)
              have hn5 := rdU_le (bs', false) 1000 (by omega)
              rw [show k - j = (k - (j + 1)) + 1 by omega] at hdep2
              simp only [lWrites] at hdep2
              rw [if_neg (by simp)] at hdep2
              generalize rdU (bs', false) 1000 = s5 at hl5 hu5 hn5 hdep2
              obtain ⟨⟨bs5, bad5⟩, u⟩ := s5
              simp only [rdV] at hu5
              simp only at hl5 hn5 hdep2
              refine hu5.use ?_
              by_cases hbad : bad5 = true ∨ ts.length ≤ u ∨ bs5 = []
              · have hnone : lWrites ts k (bs4, bad4) [] = none := by
                  rw [← hdep2]
                  cases bad5 with
                  | true => cases bs5 <;> rfl
                  | false =>
                    cases bs5 with
                    | nil => rfl
                    | cons d bs6 =>
                      have hu : ts[u]? = none := by simp at hbad ⊢; exact hbad
                      simp only [hu]
                rw [hnone] at hR
                simp only at hR
                subst hR
                cases bad5 with
                | true =>
                  simp [h11, h8, h0, h1, h6, h7, h4]
                  exact Sub.tup2 sub_noDnR (Sub.refl _)
                | false =>
                  by_cases hu : (ts.length : Int) ≤ u
                  · simp [h11, h8, h0, h1, h6, h7, h4, hu]
                    exact Sub.tup2 sub_noDnR (Sub.refl _)
                  · have hnil : bs5 = [] := by
                      rcases hbad with h | h | h
                      · cases h
                      · omega
                      · exact h
                    subst hnil
                    simp [h11, h8, h0, h1, h6, h7, h4, hu]
                    exact Sub.tup2 sub_noDnR (Sub.refl _)
              · simp only [not_or, Bool.not_eq_true, Nat.not_le] at hbad
                obtain ⟨a1, a2, a3⟩ := hbad
                subst a1
                cases bs5 with
                | nil => exact absurd rfl a3
                | cons d bs6 =>
                obtain ⟨t, htg⟩ : ∃ t, ts[u]? = some t := ⟨ts[u], by simp [a2]⟩
                have htm : t ∈ ts := List.mem_of_getElem? htg
                simp only [htg] at hdep2
                have hgt : (tsA ts)[u]'(by simpa using a2) = tA t := by
                  have : (tsA ts)[u]? = some (tA t) := by simp [tsA, htg]
                  exact (List.getElem?_eq_some_iff.1 this).2
                simp only [tA, strV] at hgt
                have hbd : bytesA (d :: bs6) = .s (.int .u8 d.toNat) :: bytesA bs6 := rfl
                have hu : ¬ (ts.length : Int) ≤ u := by omega
                have hzz : ¬ ((bs6.length : Int) + 1 = 0) := by omega
                simp [h11, h8, h0, h1, h6, h7, h4, hu, hbd, hzz]
                refine W_chunks [([0,1,2,3,4,5,6,7,8,9,10], 11, [4,6,8]), ([], 12, [])] [] hmix (by kernel_rfl) (by kernel_rfl) (by kernel_rfl) ?_
                simp [h11, h8, h0, h1, h6, h7, h4, hu, hgt, a2, pureG, pureO, opVal]
                refine fun b13 => ⟨by omega, ?_⟩
                have hl6 := rdT_len (bs6, false)
                have hu6 := readText_ok gl (bs6, false) (by simp only; simp at hl5; omega)
                simp only [List.length_cons] at hl5
                generalize rdT (bs6, false) = s6 at hl6 hu6 hdep2
                obtain ⟨⟨bs7, bad7⟩, txt⟩ := s6
                simp only [rdV] at hu6
                simp only at hl6 hdep2
                refine hu6.use ?_
                have fin : ∀ (rl : List V) (E' : Env) (q' : Own), rl = lRow t d txt → E' 11 = .s (.int .i64 ((j : Int) + 1)) → E' 8 = .s (.int .i64 k) → E' 0 = .lst 2 (tsA ts) o → E' 1 = .lst 1 (bytesA (c :: r)) o' → E' 6 = .ptr 6 b6 0 → E' 7 = .ptr 7 b7 0 → E' 4 = .ptr 4 b4 0 →
                    ∃ m, m < k - j ∧ J m E' [(139, .own 68 3 (ws.length + 1) q'), (56, .own 3 1 acc.length q), (6, .box b6 26 [.s (.int .i64 0), .s (.int .i64 num), .lst 1 (intsA acc) (some (56, q)), .lst 3 (wsA ws ++ [.agg [.s (strV t.name), .s (.bool (decide (d.toNat = 1))), .lst 4 (vsA rl) none]]) (some (139, q'))]), (7, .box b7 86 [.lst 1 (bytesA bs7) none, .s (.bool bad7)]), (4, .box b4 26 [.s (.int .i64 0), .s (.int .i64 0), .s (.slice none 0 0), .s (.slice none 0 0)])] := fun rl E' q' hrl' z11 z8 z0 z1 z6 z7 z4 => by
                  refine ⟨k - (j + 1), by omega, ?_⟩
                  rw [hJ]
                  exact ⟨j + 1, bs7, bad7, ws ++ [⟨t.name, decide (d.toNat = 1), lRow t d txt⟩], q', rfl, by omega, by rw [z11]; simp, z8, z0, z1, z6, z7, z4, by simp [wsA, wA, hrl'], hdep2, by omega, by simp; omega⟩
                by_cases hd1 : d.toNat = 1
                · have hdI : (d.toNat : Int) = 1 := by omega
                  simp [h11, h8, h0, h1, h6, h7, h4, hdI, hd1]
                  have ho := refDecode_ok gl txt (by omega)
                  simp only [strV] at ho
                  refine ho.use ?_
                  simp [h11, h8, h0, h1, h6, h7, h4, e2, hdI, hd1]
                  refine ⟨by decide, by omega, by omega, fun q' => ?_⟩
                  have hz := fin (ordD txt).1
                  simp [hd1, lRow] at hz
                  exact hz _ q' (by simp) (by simp [h8]) (by simp [h0]) (by simp [h1]) (by simp [h6]) (by simp [h7]) (by simp [h4])
                · have hdI : ¬ (d.toNat : Int) = 1 := by omega
                  simp [h11, h8, h0, h1, h6, h7, h4, hdI, hd1, hgt, a2]
                  have ho := refRowDecode_ok gl t txt none (by omega) (hts t htm) (hk t htm)
                  simp only [tA, strV] at ho
                  refine ⟨by show txt.toArray.size ≤ _; simp; omega, ho.use ?_⟩
                  simp [h11, h8, h0, h1, h6, h7, h4, e2, hdI, hd1]
                  refine ⟨by decide, by omega, by omega, fun q' => ?_⟩
                  have hz := fin (rowD t txt).1
                  simp [hd1, lRow] at hz
                  exact hz _ q' (by simp) (by simp [h8]) (by simp [h0]) (by simp [h1]) (by simp [h6]) (by simp [h7]) (by simp [h4])
    · have hcI : ¬ (c.toNat : Int) = 1 := by omega
      have hlz : ¬ ((r.length : Int) + 1 = 0) := by omega
      simp [Tryz.f11, decL, hbc, hcI, hc1, hlz]
      exact fun b4 => Sub.tup2 sub_noDnR (Sub.refl _)
end Go.Proofs.YtjhnabdcmfjeoaaGreatDoor.Ab
/- The contract of the law StoreCommits. Own work. -/
set_option linter.unusedSimpArgs false
set_option linter.unusedVariables false
namespace Go.Proofs.YtjhnabdcmfjeoaaGreatDoor.Ab
open Go

theorem valid_le (v : V) : v.valid ≤ 3 := by
  unfold V.valid
  split
  · omega
  · split
    · omega
    · split <;> omega
theorem firstBad_le : ∀ l : List V, firstBad l ≤ 3
  | [] => by simp [firstBad]
  | v :: l => by
    have h1 := firstBad_le l
    have h2 := valid_le v
    simp only [firstBad]; split <;> omega
theorem ordE_le (l : List V) : (ordE l).2 ≤ 3 := by
  have := firstBad_le l
  unfold ordE
  split
  · exact this
  · split
    · show 2 ≤ 3; omega
    · show 0 ≤ 3; omega
theorem koR_le (cols : List Col) : ∀ (ks : List Int) (l : List V), koR cols ks l ≤ 7
  | [], _ => by simp [koR]
  | _ :: _, [] => by simp [koR]
  | k :: ks, v :: vs => by
    have h1 := koR_le cols ks vs
    have h2 := valid_le v
    simp only [koR]
    split
    · omega
    · split
      · omega
      · exact h1
theorem keyE_le (t : Tb) (l : List V) : (keyE t l).2 ≤ 7 := by
  have h1 := koR_le t.cols (keyIdx t.cols 0) l
  have h2 := ordE_le l
  unfold keyE
  split
  · show 1 ≤ 7; omega
  · split
    · exact h1
    · omega
theorem fitE_le (c : Col) (v : V) : fitE c v ≤ 33 := by
  have h2 := valid_le v
  unfold fitE
  split
  · omega
  · split
    · split <;> omega
    · split <;> omega
theorem chkR_le : ∀ (cs : List Col) (l : List V), chkR cs l ≤ 33
  | [], _ => by simp [chkR]
  | _ :: _, [] => by simp [chkR]
  | c :: cs, v :: l => by
    have h1 := chkR_le cs l
    have h2 := fitE_le c v
    simp only [chkR]
    split
    · exact h2
    · exact h1
theorem rowE_le (t : Tb) (l : List V) : (rowE t l).2 ≤ 33 := by
  have h1 := chkR_le t.cols l
  have h2 : chkE t l ≤ 33 := by unfold chkE; split <;> omega
  unfold rowE
  split
  · exact h2
  · show 0 ≤ 33; omega
theorem wrB_le (l : List Tb) (w : Wr) : (wrB l w).2 ≤ 33 := by
  have h1 := keyE_le (findT l w.table).2.1 w.row
  have h2 := rowE_le (findT l w.table).2.1 w.row
  have h3 : (findT l w.table).2.2 ≤ 30 := by unfold findT; split <;> simp
  unfold wrB
  split
  · show (findT l w.table).2.2 ≤ 33; omega
  · split
    · split
      · show (keyE (findT l w.table).2.1 w.row).2 ≤ 33; omega
      · show 0 ≤ 33; omega
    · split
      · exact h2
      · show 0 ≤ 33; omega
theorem wrsR_le (l : List Tb) : ∀ (ws : List Wr) (b : List UInt8), (wrsR l ws b).2 ≤ 33
  | [], b => by simp [wrsR]
  | w :: ws, b => by
    have h1 := wrsR_le l ws (b ++ (wrB l w).1)
    have h2 := wrB_le l w
    simp only [wrsR]
    split
    · exact h1
    · exact h2
theorem encD_le (l : List Tb) (d : Dn) : (encD l d).2 ≤ 33 := by
  have h := wrsR_le l d.writes (headB d)
  unfold encD
  split
  · show 1 ≤ 33; omega
  · split
    · show 1 ≤ 33; omega
    · exact h
theorem decD_le (l : List Tb) (b : List UInt8) : (decD l b).2 ≤ 3 := by
  unfold decD
  simp only
  split
  · show 3 ≤ 3; omega
  · show 0 ≤ 3; omega
theorem decD_label (l : List Tb) (b : List UInt8) : (decD l b).1.label = 0 := by
  unfold decD
  simp only
  split <;> rfl

/-- What the law's arguments must fit. -/
structure CommFits (l : List Tb) (d : Dn) (b : List UInt8) : Prop where
  len : l.length ≤ 2 ^ 20
  c : ∀ t ∈ l, t.cols.length ≤ 2 ^ 20
  k : ∀ t ∈ l, ∀ c ∈ t.cols, -9223372036854775808 ≤ c.kind ∧ c.kind ≤ 9223372036854775807
  dfit : d.fits
  deps : d.deps.length ≤ 2 ^ 20
  b : b.length ≤ 2 ^ 20

theorem lRow_len (t : Tb) (c : UInt8) (s : List UInt8) : (lRow t c s).length ≤ s.length := lRow_count t c s
theorem decL_facts (ts : List Tb) (b : List UInt8) (hb : b.length ≤ 2 ^ 20) : (decL ts b).1.fits ∧ (decL ts b).1.deps.length ≤ 16 := by
  have none : noDn.fits ∧ noDn.deps.length ≤ 16 := ⟨⟨by simp [noDn], by simp [noDn], by simp [noDn], by simp [noDn], by simp [noDn, rsum]⟩, by simp [noDn]⟩
  cases b with
  | nil => exact none
  | cons c r =>
    simp only [decL]
    split
    · exact none
    split
    · exact none
    rename_i s5 ws hw
    split
    · exact none
    have h := decL_fits ts r (by simpa using hb) s5 ws hw
    refine ⟨h, ?_⟩
    simp only
    rw [(lDeps_facts _ _ _).2.1]
    have := rdU_le (rdU (r, false) 9223372036854775807).1 16 (by omega)
    simp; omega

set_option maxRecDepth 20000
theorem storeCommits_ok (gl : Nat → AV) (m : Int) (hm : GInt gl 1 m) (hge : GErr gl) (l : List Tb) (d : Dn) (b : List UInt8) (hf : CommFits l d b) : PureA Tryz.prog gl 3 [.lst 2 (tsA l) none, dA d, .lst 1 (bytesA b) none] (.s (.bool true)) := by
  refine CallsA.letgo ?_
  refine calls_of_code (C := ⟨Tryz.prog, gl, 95, []⟩) (fn := Tryz.f3) rfl rfl rfl (by simp) (vc_sound _ _ _ _ ?_)
  have hl := hf.len
  have hd := hf.dfit
  have hb := hf.b
  simp [Tryz.f3, dA]
  refine (catalog_ok gl m hm l none (by omega) (fun t ht => by have := hf.c t ht; omega)).use ?_
  by_cases hnew : newE l = 0
  · have hl32 := newE_32 hnew
    have hcols : ∀ t ∈ l, t.cols.length ≤ 2 ^ 30 := fun t ht => by have := hf.c t ht; omega
    have heq := decL_eq l hnew b hb
    have hle := encD_le l d
    have hle2 := decD_le l b
    obtain ⟨hdf, hdd⟩ := decL_facts l b hb
    have hlab := decD_label l b
    rw [heq] at hdf hdd
    simp [hnew, catA]
    refine (done_ok gl d (by have := hf.deps; omega) (by have := hd.wlen; omega) (fun w hw => by have := (hd.rows w hw).1; omega)).use ?_
    simp
    refine (encodeDone_ok gl l d hcols (by omega) hd).use ?_
    have hcat : AV.rp [.lst 2 (tsA l) none, .mpr (mapE l 0)] = catA l := rfl
    simp
    have hre := refEncDone_ok gl l none d hcols (by omega) hd
    simp only [dA] at hre
    refine hre.use ?_
    simp
    refine ⟨by omega, by omega, fun q => ?_⟩
    rw [hcat]
    refine (decodeDone_ok gl m hm l b (some (39, q)) (by omega) hcols).use ?_
    have hrd := refDecDone_ok gl l b none none hb hcols (by omega) hf.k
    rw [heq] at hrd
    generalize encD l d = E1 at hle ⊢
    obtain ⟨eb, ee⟩ := E1
    generalize decD l b = D1 at hle2 hdf hdd hlab hrd ⊢
    obtain ⟨⟨lab, num, deps, ws⟩, de⟩ := D1
    simp only at hle hle2 hlab
    subst hlab
    simp only [dA] at hrd
    simp [dA]
    intro b13
    refine hrd.use ?_
    simp
    intro b15
    refine (num_ok gl hge ee (by omega)).use ?_
    simp
    refine (ints_ok gl deps deps none none (by simp only at hdd; omega)).use ?_
    simp
    refine (writes_ok gl ws ws none none (by have := hdf.wlen; simp only at this; omega) (fun w hw => by have := (hdf.rows w hw).1; omega)).use ?_
    simp
    refine (num_ok gl hge de (by omega)).use ?_
    simp
    refine (sure_ok gl m hm).use ?_
    simp
  · simp [hnew]
    refine (sure_ok gl m hm).use ?_
    simp
end Go.Proofs.YtjhnabdcmfjeoaaGreatDoor.Ab
