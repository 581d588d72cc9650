/- The contracts of what is let down: EncodeEntry, DecodeEntry. Own work. -/
import Derived.Test.YtjhnabdcmfjeoaaGreatDoorYK
import Derived.Test.YtjhnabdcmfjeoaaGreatDoorYD
set_option linter.unusedSimpArgs false
set_option linter.unusedVariables false
namespace Go.Proofs.YtjhnabdcmfjeoaaGreatDoor.Ab
open Go

structure En where
  view : List UInt8
  lines : List (List V)
def lineA (l : List V) : AV := .lst 4 (vsA l) none
def linesA (l : List (List V)) : List AV := l.map lineA
@[simp] theorem linesA_len (l : List (List V)) : (linesA l).length = l.length := by simp [linesA]
def enA (e : En) : AV := .agg [.s (strV e.view), .lst 1 (linesA e.lines) none]
theorem linesA_get {l : List (List V)} {i : Nat} {v : List V} {r : List (List V)} (h : l.drop i = v :: r) : i < l.length ∧ l[i]? = some v ∧ (linesA l)[i]? = some (lineA v) ∧ l.drop (i + 1) = r ∧ v ∈ l := by
  have hlt : i < l.length := by have := congrArg List.length h; simp at this; omega
  have hg : l[i]? = some v := by rw [← List.head?_drop, h]; rfl
  exact ⟨hlt, hg, by simp [linesA, hg], by rw [← List.drop_drop, h]; rfl, List.mem_of_getElem? hg⟩

def linesR : List (List V) → List UInt8 → List UInt8 × Nat
  | [], b => (b, 0)
  | l :: ls, b => if (ordE l).2 = 0 then linesR ls (b ++ uintB (ordE l).1.length ++ (ordE l).1) else ([], (ordE l).2)
def enHead (e : En) : List UInt8 := [2] ++ uintB e.view.length ++ e.view ++ uintB e.lines.length
def encEn (e : En) : List UInt8 × Nat := if nameB e.view = false then ([], 30) else linesR e.lines (enHead e)
structure En.fits (e : En) : Prop where
  n : e.lines.length ≤ 2 ^ 20
  l : ∀ l ∈ e.lines, l.length ≤ 2 ^ 40 ∧ ∀ v ∈ l, v.fits
theorem nameB_len {s : List UInt8} (h : nameB s = true) : s.length ≤ 32 := by
  simp [nameB] at h; omega

set_option maxRecDepth 20000
theorem encodeEntry_ok (gl : Nat → AV) (m : Int) (hm : GInt gl 1 m) (e : En) (hf : e.fits) : PureA Tryz.prog gl 16 [enA e] (.tup [.lst 1 (bytesA (encEn e).1) none, errA (encEn e).2]) := by
  refine PureA.ofSub ?_
  refine calls_of_code (C := ⟨Tryz.prog, gl, 42, []⟩) (fn := Tryz.f16) rfl rfl rfl (by simp) (vc_sound _ _ _ _ ?_)
  generalize hR : encEn e = R
  simp [Tryz.f16, enA]
  refine (name_ok gl m hm e.view).use ?_
  unfold encEn at hR
  cases hn : nameB e.view with
  | false =>
    rw [hn] at hR; simp at hR; subst hR; simp
    exact Sub.tup2 (Sub.nil _) (Sub.refl _)
  | true =>
    rw [hn] at hR
    simp only [Bool.true_eq_false, if_false] at hR
    have hvl := nameB_len hn
    have hll := hf.n
    simp
    refine W_draw (.val 0 <| .val 1 <| .val 2 <| .val 4 <| .val 5 <| .val 6 <| .one 3 [5] <| .one 7 [2, 5] <| .val 8 .done) hmix (by kernel_rfl) (by kernel_rfl) ?_
    have hone : AV.lst 1 [AV.s (.int .u8 2)] none = AV.lst 1 (bytesA [2]) none := rfl
    simp
    refine ⟨by decide, ?_⟩
    rw [hone]
    refine (appendText_ok gl 17 [2] none e.view (by omega) (by simp)).own fun q => ?_
    have hu1 := uintB_len 9 e.view.length (by omega)
    have hu2 := uintB_len 9 e.lines.length (by omega)
    simp [pureG, pureO, opVal]
    refine (count_ok gl 21 _ _ e.lines.length (by omega) (by simp; omega)).own fun q2 => ?_
    simp [pureG, pureO, opVal]
    obtain ⟨I, hI⟩ : ∃ I : Nat → Env → AHeap → Prop, I = fun k E H => ∃ (i : Nat) (xs : List UInt8) (o : Option (Nat × Own)), k = e.lines.length - i ∧ i ≤ e.lines.length ∧ E 25 = .s (.int .i64 i) ∧ E 24 = .s (.int .i64 e.lines.length) ∧ E 23 = .lst 1 (linesA e.lines) none ∧ E 4 = .lst 1 (bytesA xs) o ∧ H = [] ∧
      xs.length ≤ 100 + 70000 * i ∧ linesR (e.lines.drop i) xs = R := ⟨_, rfl⟩
    refine W_loopN [] (by decide) I e.lines.length ?_ ?_
    · rw [hI]
      refine ⟨0, enHead e, some (21, q2), rfl, by omega, by simp, by simp, by simp, by simp [enHead], rfl, by simp [enHead]; omega, by simpa using hR⟩
    · intro k E H hi0
      rw [hI] at hi0
      obtain ⟨i, xs, o, rfl, hi, h25, h24, h23, h4, rfl, hxl, hc⟩ := hi0
      refine vc_sound _ _ _ _ ?_
      cases hd : e.lines.drop i with
      | nil =>
        have : i = e.lines.length := by have := List.drop_eq_nil_iff.1 hd; omega
        subst this
        rw [hd] at hc
        simp only [linesR] at hc
        subst hc
        simp [h25, h24, h23, h4]
        exact Sub.tup2 (Sub.drop _ _ _) (Sub.refl _)
      | cons l r =>
        obtain ⟨hlt, hg, hga, hdr, hm'⟩ := linesA_get hd
        have hgi := (List.getElem?_eq_some_iff.1 hga).2
        rw [hd] at hc
        simp only [linesR] at hc
        have e2 : IntKind.i64.wrap ((i : Int) + 1) = (i : Int) + 1 := wrap_i64_in _ (by omega) (by omega)
        obtain ⟨hl1, hl2⟩ := hf.l l hm'
        have hol := ordE_len l
        simp only [lineA] at hgi
        simp [h25, h24, h23, h4, hlt, hgi]
        refine (encode_ok gl l none hl2 hl1).use ?_
        by_cases he : (ordE l).2 = 0
        · rw [if_pos he] at hc
          simp [h25, h24, h23, h4, he]
          refine (appendText_ok gl 39 xs o (ordE l).1 (by omega) (by omega)).own fun q3 => ?_
          have hu3 := uintB_len 9 (ordE l).1.length (by omega)
          simp [h25, h24, h23, h4, e2]
          refine ⟨e.lines.length - (i + 1), by omega, ?_⟩
          rw [hI]
          exact ⟨i + 1, xs ++ uintB (ordE l).1.length ++ (ordE l).1, some (39, q3), rfl, by omega, by simp, by simp [h24], by simp [h23], by simp, rfl, by simp; omega, by rw [hdr, ← hc]⟩
        · rw [if_neg he] at hc
          subst hc
          simp [h25, h24, h23, h4, he]
          exact Sub.tup2 (Sub.nil _) (Sub.refl _)

def rdLines : Nat → Rd → List (List V) → Rd × List (List V)
  | 0, s, acc => (s, acc)
  | n + 1, s, acc => if s.2 = true then (s, acc) else rdLines n (rdValues s).1 (acc ++ [(rdValues s).2])
/-- What an entry's head leaves: its reader, its name. -/
def rdEnHead (s : Rd) : Rd := ((rdByte s 2).1.1, (rdByte s 2).1.2 || decide ((rdByte s 2).2 ≠ 2))
def rdEntry (s : Rd) : Rd × En :=
  let a := rdText (rdEnHead s)
  let b := rdMany a.1
  let c := rdLines b.2 b.1 []
  ((c.1.1, c.1.2 || !nameB a.2), ⟨a.2, c.2⟩)

theorem rdText_len' (s : Rd) : (rdText s).1.1.length ≤ s.1.length := by
  unfold rdText; split <;> simp

theorem sub_en (txt : List UInt8) (ws : List (List V)) (o : Option (Nat × Own)) : Sub (.agg [.s (.string ⟨txt.toArray⟩), .lst 1 (linesA ws) o]) (enA ⟨txt, ws⟩) := Sub.agg rfl fun i a b ha hb => by
  match i with
  | 0 => simp at ha hb; subst ha hb; exact Sub.refl _
  | 1 => simp at ha hb; subst ha hb; exact Sub.drop _ _ _
  | i + 2 => simp at ha
theorem rdEntry_ok (gl : Nat → AV) (m : Int) (hm : GInt gl 1 m) (l b : Nat) (s : Rd) (o : Option (Nat × Own)) (hb : s.1.length < 4294967280) (g2 : ¬ 2 = l) (g3 : ¬ 3 = l) (g26 : ¬ 26 = l) :
    CallsA Tryz.prog gl 39 [.ptr l b 0] [rdH l b s o] (retRd l b (enA (rdEntry s).2) (rdEntry s).1) := by
  refine CallsA.ofRd ?_
  have f2 : ¬ l = 2 := fun e => g2 e.symm
  have f3 : ¬ l = 3 := fun e => g3 e.symm
  have f26 : ¬ l = 26 := fun e => g26 e.symm
  refine calls_of_code (C := ⟨Tryz.prog, gl, 43, []⟩) (fn := Tryz.f39) rfl rfl rfl (by simp) (vc_sound _ _ _ _ ?_)
  generalize hR : rdEntry s = R
  simp [Tryz.f39, rdH, f2, f3, g2, g3]
  intro b2
  refine (rdByte_ok gl l b s o 2).rdF (by simp [rdH, f2, g2]) fun o1 => ?_
  have hl1 := rdByte_len s 2
  simp [rdH, f2, f3, g2, g3]
  have hl2 : (rdEnHead s).1.length ≤ s.1.length := hl1
  have hl3 := rdText_len' (rdEnHead s)
  have hH : ∀ x, x = (rdEnHead s).2 → Res.box b 80 [AV.lst 1 (bytesA (rdByte s 2).1.1) o1, AV.s (.bool x)] = (rdH l b (rdEnHead s) o1).2 := fun x hx => by subst hx; rfl
  refine ⟨fun h => ?_, fun h => ?_⟩
  all_goals
    refine (rdText_ok gl l b (rdEnHead s) o1 (by omega)).rdF (by simp only [find, if_true]; exact congrArg some (hH _ (by simp [rdEnHead]; omega))) fun o2 => ?_
    unfold rdEntry at hR
    simp only at hR
    generalize rdText (rdEnHead s) = a at hl3 hR ⊢
    obtain ⟨a, txt⟩ := a
    simp only at hl3 hR ⊢
    simp [rdH, f2, f3, g2, g3]
    intro b3
    refine (rdMany_ok gl l b a o2 (by omega)).rdF (by simp [rdH, f2, f3, g2, g3]) fun o4 => ?_
    have hl5 : (rdMany a).1.1.length ≤ a.1.length := rdUint_len a _
    have hk5 : ((rdMany a).2 : Int) ≤ a.1.length := rdUint_le a _ (by omega)
    generalize rdMany a = s5 at hl5 hk5 hR ⊢
    obtain ⟨s5, k⟩ := s5
    simp only at hl5 hk5 hR ⊢
    simp [rdH, f2, f3, g2, g3]
    refine W_pick [3, l, 2] (by simp [f2, f3, g2, g3]) ?_
    simp [rdH, f2, f3, g2, g3]
    refine W_nilCell (l := 3) (b := b3) (k := 1) (U := 64) (sz := 1) (L := 26) rfl ?_
    obtain ⟨J, hJ⟩ : ∃ J : Nat → Env → AHeap → Prop, J = fun j E H => ∃ (i : Nat) (s : Rd) (ws : List (List V)) (p : Own) (o' : Option (Nat × Own)), j = k - i ∧ i ≤ k ∧ E 15 = .s (.int .i64 i) ∧ E 14 = .s (.int .i64 k) ∧ E 0 = .ptr l b 0 ∧ E 3 = .ptr 3 b3 0 ∧ E 2 = .ptr 2 b2 0 ∧
        H = [(26, .own 64 1 ws.length p), (3, .box b3 50 [.s (strV txt), .lst 1 (linesA ws) (some (26, p))]), rdH l b s o', (2, .box b2 50 [.s (strV []), .s (.slice none 0 0)])] ∧
        rdLines (k - i) s ws = rdLines k s5 [] ∧ s.1.length ≤ s5.1.length ∧ ws.length = i := ⟨_, rfl⟩
    refine W_loopN [26, 3, l, 2] (by simp [f2, f3, g2, g3, g26]) J k ?_ ?_
    · rw [hJ]
      exact ⟨0, s5, [], .nil, o4, rfl, by omega, by simp, by simp, by simp [argE], by simp, by simp, by simp [rdH, linesA, strV, g26, g2, g3, f2, f3, f26], rfl, Nat.le_refl _, rfl⟩
    · intro j E H hi0
      rw [hJ] at hi0
      obtain ⟨i, s, ws, p, o', rfl, hi, h15, h14, h0, h3, h2, rfl, hws, hsl, hal⟩ := hi0
      refine vc_sound _ _ _ _ ?_
      by_cases hgo : i < k ∧ s.2 = false
      · obtain ⟨hlt, hbad⟩ := hgo
        simp [h15, h14, h0, h3, h2, hlt, hbad, rdH, f2, f3, g2, g3, f26, g26]
        refine W_draw (.val 0 <| .val 1 <| .val 2 <| .one 3 [1] <| .val 4 <| .one 5 [] <| .val 6 <| .one 7 [] .done) hmix (by kernel_rfl) (by kernel_rfl) ?_
        simp [h15, h14, h0, h3, h2, f2, f3, g2, g3, f26, g26]
        refine (rdValues_ok gl m hm l b s o' (by omega)).rdF (by simp [rdH, hbad, f2, f3, g2, g3, f26, g26]) fun o3 => ?_
        have hul := rdValues_len s
        have hwe : linesA ws ++ [AV.lst 4 (vsA (rdValues s).2) none] = linesA (ws ++ [(rdValues s).2]) := by simp [linesA, lineA]
        simp [h15, h14, h0, h3, h2, rdH, pureG, pureO, opVal, f2, f3, g2, g3, f26, g26]
        rw [wrap_i64_in _ (by omega) (by omega)]
        refine ⟨by decide, by omega, by omega, fun q' => ⟨k - (i + 1), by omega, ?_⟩⟩
        rw [hJ]
        refine ⟨i + 1, (rdValues s).1, ws ++ [(rdValues s).2], q', o3, rfl, by omega, by simp, by simp [h14], by simp [h0], by simp [h3], by simp [h2], by simp [rdH, hwe, strV, f2, f3, g2, g3, f26, g26], ?_, by omega, by simp [hal]⟩
        rw [← hws, show k - i = k - (i + 1) + 1 by omega]
        simp [rdLines, hbad]
      · have hend : rdLines k s5 [] = (s, ws) := by
          rw [← hws]
          by_cases hlt : i < k
          · have hb : s.2 = true := by cases h : s.2 <;> simp_all
            rw [show k - i = k - (i + 1) + 1 by omega]
            simp [rdLines, hb]
          · rw [show k - i = 0 by omega]; rfl
        rw [hend] at hR
        simp only at hR
        subst hR
        by_cases hb : s.2 = true
        · have hc : i < k ∨ ¬ i < k := by omega
          rcases hc with hlt | hlt
          all_goals
            simp [h15, h14, h0, h3, h2, hlt, hb, rdH, f2, f3, g2, g3, f26, g26]
            exact ⟨sub_en _ _ _, o', by simp [rdH]⟩
        · have hb' : s.2 = false := by simpa using hb
          have hlt : ¬ i < k := fun h => hgo ⟨h, hb'⟩
          simp [h15, h14, h0, h3, h2, hlt, hb', rdH, f2, f3, g2, g3, f26, g26]
          refine (name_ok gl m hm txt).use ?_
          simp [h15, h14, h0, h3, h2, hlt, hb', rdH, f2, f3, g2, g3, f26, g26]
          exact ⟨sub_en _ _ _, o', by simp [rdH]⟩

def noEn : En := ⟨[], []⟩
def decEn (b : List UInt8) : En × Nat := if (rdEntry (b, false)).1.2 = true ∨ (rdEntry (b, false)).1.1 ≠ [] then (noEn, 3) else ((rdEntry (b, false)).2, 0)
theorem sub_noEn : Sub (.agg [.s (.string ⟨#[]⟩), .s (.slice none 0 0)]) (enA noEn) := Sub.agg rfl fun i a b ha hb => by
  match i with
  | 0 => simp [noEn] at ha hb; subst ha hb; exact Sub.refl _
  | 1 => simp [noEn, linesA] at ha hb; subst ha hb; exact Sub.nil _
  | i + 2 => simp at ha

theorem decodeEntry_ok (gl : Nat → AV) (m : Int) (hm : GInt gl 1 m) (b : List UInt8) (o : Option (Nat × Own)) (hb : b.length < 4294967280) :
    PureA Tryz.prog gl 15 [.lst 1 (bytesA b) o] (.tup [enA (decEn b).1, errA (decEn b).2]) := by
  refine PureA.ofSub ?_
  refine calls_of_code (C := ⟨Tryz.prog, gl, 17, [8]⟩) (fn := Tryz.f15) rfl rfl rfl (by simp) (vc_sound _ _ _ _ ?_)
  generalize hR : decEn b = R
  simp [Tryz.f15]
  intro b2 b8
  refine (rdEntry_ok gl m hm 8 b8 (b, false) o (by omega) (by decide) (by decide) (by decide)).rdF (by simp [rdH]) fun o1 => ?_
  unfold decEn at hR
  generalize rdEntry (b, false) = a at hR ⊢
  obtain ⟨⟨bs, bad⟩, e⟩ := a
  simp only at hR ⊢
  simp [rdH, enA]
  intro b5
  refine (rdDone_ok gl 8 b8 (bs, bad) o1).rdF (by simp [rdH]) fun o3 => ?_
  subst hR
  cases bad with
  | true => simp [rdH]; exact Sub.tup2 sub_noEn (Sub.refl _)
  | false =>
    by_cases hbs : bs = []
    · simp [rdH, hbs]; exact Sub.refl _
    · simp [rdH, hbs]; exact Sub.tup2 sub_noEn (Sub.refl _)
end Go.Proofs.YtjhnabdcmfjeoaaGreatDoor.Ab
/- The contracts of the law's own comparisons. Own work. -/
set_option linter.unusedSimpArgs false
set_option linter.unusedVariables false
namespace Go.Proofs.YtjhnabdcmfjeoaaGreatDoor.Ab
open Go

theorem V.eq_iff (a b : V) : a = b ↔ (a.k = b.k ∧ a.n = b.n ∧ a.t = b.t ∧ a.b = b.b) := by cases a; cases b; simp
instance : DecidableEq V := fun a b => decidable_of_iff _ (V.eq_iff a b).symm
theorem Wr.eq_iff (a b : Wr) : a = b ↔ (a.table = b.table ∧ a.gone = b.gone ∧ a.row = b.row) := by cases a; cases b; simp
instance : DecidableEq Wr := fun a b => decidable_of_iff _ (Wr.eq_iff a b).symm
theorem intsA_get {l : List Int} {i : Nat} {n : Int} {r : List Int} (h : l.drop i = n :: r) : i < l.length ∧ l[i]? = some n ∧ (intsA l)[i]? = some (.s (.int .i64 n)) ∧ l.drop (i + 1) = r ∧ n ∈ l := by
  have hlt : i < l.length := by have := congrArg List.length h; simp at this; omega
  have hg : l[i]? = some n := by rw [← List.head?_drop, h]; rfl
  exact ⟨hlt, hg, by simp [intsA, hg], by rw [← List.drop_drop, h]; rfl, List.mem_of_getElem? hg⟩

set_option maxRecDepth 20000
theorem ints_ok (gl : Nat → AV) (a b : List Int) (o o' : Option (Nat × Own)) (hl : a.length ≤ 2 ^ 40) : PureA Tryz.prog gl 13 [.lst 1 (intsA a) o, .lst 1 (intsA b) o'] (.s (.bool (decide (a = b)))) := by
  refine calls_of_code (C := ⟨Tryz.prog, gl, 26, []⟩) (fn := Tryz.f13) rfl rfl rfl (by simp) (vc_sound _ _ _ _ ?_)
  generalize hR : decide (a = b) = R
  by_cases hlen : (a.length : Int) = b.length
  · have hlen' : a.length = b.length := by omega
    simp [Tryz.f13, hlen]
    obtain ⟨I, hI⟩ : ∃ I : Nat → Env → AHeap → Prop, I = fun k E H => ∃ (i : Nat), k = a.length - i ∧ i ≤ a.length ∧ E 5 = .s (.int .i64 i) ∧ E 0 = .lst 1 (intsA a) o ∧ E 1 = .lst 1 (intsA b) o' ∧ H = [] ∧ decide (a.drop i = b.drop i) = R := ⟨_, rfl⟩
    refine W_loopN [] (by decide) I a.length ?_ ?_
    · rw [hI]
      exact ⟨0, rfl, by omega, by simp, by simp [argE], by simp [argE], rfl, by simpa using hR⟩
    · intro k E H hi0
      rw [hI] at hi0
      obtain ⟨i, rfl, hi, h5, h0, h1, rfl, hn⟩ := hi0
      refine vc_sound _ _ _ _ ?_
      cases hd : a.drop i with
      | nil =>
        have : i = a.length := by have := List.drop_eq_nil_iff.1 hd; omega
        subst this
        have : b.drop a.length = [] := by rw [List.drop_eq_nil_iff]; omega
        rw [this] at hn
        simp at hn
        subst hn
        simp [h5, h0, h1]
      | cons x r =>
        obtain ⟨hlt, hg, hga, hdr, hm'⟩ := intsA_get hd
        have hgi := (List.getElem?_eq_some_iff.1 hga).2
        cases hd2 : b.drop i with
        | nil => have := List.drop_eq_nil_iff.1 hd2; omega
        | cons y r2 =>
          obtain ⟨hlt2, hg2, hga2, hdr2, hm2⟩ := intsA_get hd2
          have hgi2 := (List.getElem?_eq_some_iff.1 hga2).2
          rw [hd, hd2] at hn
          have e2 : IntKind.i64.wrap ((i : Int) + 1) = (i : Int) + 1 := wrap_i64_in _ (by omega) (by omega)
          have hltI : (i : Int) < b.length := by omega
          simp [h5, h0, h1, hlt, hlt2, hltI]
          refine W_all 9 rfl hmix (by kernel_rfl) (by kernel_rfl) ?_
          by_cases hxy : x = y
          · subst hxy
            simp [h5, h0, h1, hlt, hlt2, hgi, hgi2, e2]
            refine ⟨a.length - (i + 1), by omega, ?_⟩
            rw [hI]
            exact ⟨i + 1, rfl, by omega, by simp, by simp [h0], by simp [h1], rfl, by rw [hdr, hdr2]; simpa using hn⟩
          · simp [hxy] at hn
            subst hn
            simp [h5, h0, h1, hlt, hlt2, hgi, hgi2, hxy]
  · have : a ≠ b := fun e => hlen (by rw [e])
    simp [Tryz.f13, hlen, ← hR, this]

theorem values_ok (gl : Nat → AV) (a b : List V) (o o' : Option (Nat × Own)) (hl : a.length ≤ 2 ^ 40) : PureA Tryz.prog gl 38 [.lst 4 (vsA a) o, .lst 4 (vsA b) o'] (.s (.bool (decide (a = b)))) := by
  refine calls_of_code (C := ⟨Tryz.prog, gl, 26, []⟩) (fn := Tryz.f38) rfl rfl rfl (by simp) (vc_sound _ _ _ _ ?_)
  generalize hR : decide (a = b) = R
  by_cases hlen : (a.length : Int) = b.length
  · have hlen' : a.length = b.length := by omega
    simp [Tryz.f38, hlen]
    obtain ⟨I, hI⟩ : ∃ I : Nat → Env → AHeap → Prop, I = fun k E H => ∃ (i : Nat), k = a.length - i ∧ i ≤ a.length ∧ E 5 = .s (.int .i64 i) ∧ E 0 = .lst 4 (vsA a) o ∧ E 1 = .lst 4 (vsA b) o' ∧ H = [] ∧ decide (a.drop i = b.drop i) = R := ⟨_, rfl⟩
    refine W_loopN [] (by decide) I a.length ?_ ?_
    · rw [hI]
      exact ⟨0, rfl, by omega, by simp, by simp [argE], by simp [argE], rfl, by simpa using hR⟩
    · intro k E H hi0
      rw [hI] at hi0
      obtain ⟨i, rfl, hi, h5, h0, h1, rfl, hn⟩ := hi0
      refine vc_sound _ _ _ _ ?_
      cases hd : a.drop i with
      | nil =>
        have : i = a.length := by have := List.drop_eq_nil_iff.1 hd; omega
        subst this
        have : b.drop a.length = [] := by rw [List.drop_eq_nil_iff]; omega
        rw [this] at hn
        simp at hn
        subst hn
        simp [h5, h0, h1]
      | cons x r =>
        obtain ⟨hlt, hg, hga, hdr, hm'⟩ := vsA_get hd
        have hgi := (List.getElem?_eq_some_iff.1 hga).2
        cases hd2 : b.drop i with
        | nil => have := List.drop_eq_nil_iff.1 hd2; omega
        | cons y r2 =>
          obtain ⟨hlt2, hg2, hga2, hdr2, hm2⟩ := vsA_get hd2
          have hgi2 := (List.getElem?_eq_some_iff.1 hga2).2
          rw [hd, hd2] at hn
          have e2 : IntKind.i64.wrap ((i : Int) + 1) = (i : Int) + 1 := wrap_i64_in _ (by omega) (by omega)
          have hltI : (i : Int) < b.length := by omega
          simp only [vA] at hgi hgi2
          simp [h5, h0, h1, hlt, hlt2, hltI]
          refine W_all 9 rfl hmix (by kernel_rfl) (by kernel_rfl) ?_
          by_cases hxy : x = y
          · subst hxy
            simp [h5, h0, h1, hlt, hlt2, hgi, hgi2, e2]
            refine ⟨a.length - (i + 1), by omega, ?_⟩
            rw [hI]
            exact ⟨i + 1, rfl, by omega, by simp, by simp [h0], by simp [h1], rfl, by rw [hdr, hdr2]; simpa using hn⟩
          · simp [hxy] at hn
            subst hn
            have hxy' := hxy
            rw [V.eq_iff] at hxy'
            simp [h5, h0, h1, hlt, hlt2, hgi, hgi2, hxy']
  · have : a ≠ b := fun e => hlen (by rw [e])
    simp [Tryz.f38, hlen, ← hR, this]

theorem lists_ok (gl : Nat → AV) (a b : List (List V)) (o o' : Option (Nat × Own)) (hl : a.length ≤ 2 ^ 40) (hr : ∀ l ∈ a, l.length ≤ 2 ^ 40) : PureA Tryz.prog gl 18 [.lst 1 (linesA a) o, .lst 1 (linesA b) o'] (.s (.bool (decide (a = b)))) := by
  refine calls_of_code (C := ⟨Tryz.prog, gl, 27, []⟩) (fn := Tryz.f18) rfl rfl rfl (by simp) (vc_sound _ _ _ _ ?_)
  generalize hR : decide (a = b) = R
  by_cases hlen : (a.length : Int) = b.length
  · have hlen' : a.length = b.length := by omega
    simp [Tryz.f18, hlen]
    obtain ⟨I, hI⟩ : ∃ I : Nat → Env → AHeap → Prop, I = fun k E H => ∃ (i : Nat), k = a.length - i ∧ i ≤ a.length ∧ E 5 = .s (.int .i64 i) ∧ E 0 = .lst 1 (linesA a) o ∧ E 1 = .lst 1 (linesA b) o' ∧ H = [] ∧ decide (a.drop i = b.drop i) = R := ⟨_, rfl⟩
    refine W_loopN [] (by decide) I a.length ?_ ?_
    · rw [hI]
      exact ⟨0, rfl, by omega, by simp, by simp [argE], by simp [argE], rfl, by simpa using hR⟩
    · intro k E H hi0
      rw [hI] at hi0
      obtain ⟨i, rfl, hi, h5, h0, h1, rfl, hn⟩ := hi0
      refine vc_sound _ _ _ _ ?_
      cases hd : a.drop i with
      | nil =>
        have : i = a.length := by have := List.drop_eq_nil_iff.1 hd; omega
        subst this
        have : b.drop a.length = [] := by rw [List.drop_eq_nil_iff]; omega
        rw [this] at hn
        simp at hn
        subst hn
        simp [h5, h0, h1]
      | cons x r =>
        obtain ⟨hlt, hg, hga, hdr, hm'⟩ := linesA_get hd
        have hgi := (List.getElem?_eq_some_iff.1 hga).2
        cases hd2 : b.drop i with
        | nil => have := List.drop_eq_nil_iff.1 hd2; omega
        | cons y r2 =>
          obtain ⟨hlt2, hg2, hga2, hdr2, hm2⟩ := linesA_get hd2
          have hgi2 := (List.getElem?_eq_some_iff.1 hga2).2
          rw [hd, hd2] at hn
          have e2 : IntKind.i64.wrap ((i : Int) + 1) = (i : Int) + 1 := wrap_i64_in _ (by omega) (by omega)
          have hltI : (i : Int) < b.length := by omega
          simp only [lineA] at hgi hgi2
          simp [h5, h0, h1, hlt, hlt2, hltI]
          refine W_draw (.val 0 <| .val 1 <| .val 2 <| .val 3 <| .val 4 <| .val 5 <| .val 6 <| .val 7 <| .one 8 [] <| .val 9 .done) hmix (by kernel_rfl) (by kernel_rfl) ?_
          simp [h5, h0, h1, hlt, hlt2, hgi, hgi2]
          refine (values_ok gl x y none none (hr x hm')).use ?_
          by_cases hxy : x = y
          · subst hxy
            simp [h5, h0, h1, e2]
            refine ⟨a.length - (i + 1), by omega, ?_⟩
            rw [hI]
            exact ⟨i + 1, rfl, by omega, by simp, by simp [h0], by simp [h1], rfl, by rw [hdr, hdr2]; simpa using hn⟩
          · simp [hxy] at hn
            subst hn
            simp [h5, h0, h1, hxy]
  · have : a ≠ b := fun e => hlen (by rw [e])
    simp [Tryz.f18, hlen, ← hR, this]

theorem wsA_get {l : List Wr} {i : Nat} {v : Wr} {r : List Wr} (h : l.drop i = v :: r) : i < l.length ∧ l[i]? = some v ∧ (wsA l)[i]? = some (wA v) ∧ l.drop (i + 1) = r ∧ v ∈ l := by
  have hlt : i < l.length := by have := congrArg List.length h; simp at this; omega
  have hg : l[i]? = some v := by rw [← List.head?_drop, h]; rfl
  exact ⟨hlt, hg, by simp [wsA, hg], by rw [← List.drop_drop, h]; rfl, List.mem_of_getElem? hg⟩

theorem writes_ok (gl : Nat → AV) (a b : List Wr) (o o' : Option (Nat × Own)) (hl : a.length ≤ 2 ^ 40) (hr : ∀ w ∈ a, w.row.length ≤ 2 ^ 40) : PureA Tryz.prog gl 14 [.lst 3 (wsA a) o, .lst 3 (wsA b) o'] (.s (.bool (decide (a = b)))) := by
  refine calls_of_code (C := ⟨Tryz.prog, gl, 55, []⟩) (fn := Tryz.f14) rfl rfl rfl (by simp) (vc_sound _ _ _ _ ?_)
  generalize hR : decide (a = b) = R
  by_cases hlen : (a.length : Int) = b.length
  · have hlen' : a.length = b.length := by omega
    simp [Tryz.f14, hlen]
    obtain ⟨I, hI⟩ : ∃ I : Nat → Env → AHeap → Prop, I = fun k E H => ∃ (i : Nat), k = a.length - i ∧ i ≤ a.length ∧ E 5 = .s (.int .i64 i) ∧ E 0 = .lst 3 (wsA a) o ∧ E 1 = .lst 3 (wsA b) o' ∧ H = [] ∧ decide (a.drop i = b.drop i) = R := ⟨_, rfl⟩
    refine W_loopN [] (by decide) I a.length ?_ ?_
    · rw [hI]
      exact ⟨0, rfl, by omega, by simp, by simp [argE], by simp [argE], rfl, by simpa using hR⟩
    · intro k E H hi0
      rw [hI] at hi0
      obtain ⟨i, rfl, hi, h5, h0, h1, rfl, hn⟩ := hi0
      refine vc_sound _ _ _ _ ?_
      cases hd : a.drop i with
      | nil =>
        have : i = a.length := by have := List.drop_eq_nil_iff.1 hd; omega
        subst this
        have : b.drop a.length = [] := by rw [List.drop_eq_nil_iff]; omega
        rw [this] at hn
        simp at hn
        subst hn
        simp [h5, h0, h1]
      | cons x r =>
        obtain ⟨hlt, hg, hga, hdr, hm'⟩ := wsA_get hd
        have hgi := (List.getElem?_eq_some_iff.1 hga).2
        cases hd2 : b.drop i with
        | nil => have := List.drop_eq_nil_iff.1 hd2; omega
        | cons y r2 =>
          obtain ⟨hlt2, hg2, hga2, hdr2, hm2⟩ := wsA_get hd2
          have hgi2 := (List.getElem?_eq_some_iff.1 hga2).2
          rw [hd, hd2] at hn
          have e2 : IntKind.i64.wrap ((i : Int) + 1) = (i : Int) + 1 := wrap_i64_in _ (by omega) (by omega)
          have hltI : (i : Int) < b.length := by omega
          simp only [wA, strV] at hgi hgi2
          simp [h5, h0, h1, hlt, hlt2, hltI]
          refine W_chunks [(List.range 35, 35, [4, 9, 16, 21])] [36, 37] hmix (by kernel_rfl) (by kernel_rfl) (by decide) ?_
          by_cases htb : x.table = y.table
          · by_cases hgn : x.gone = y.gone
            · simp [h5, h0, h1, hlt, hlt2, hgi, hgi2, htb, hgn, List.range, List.range.loop]
              refine (values_ok gl x.row y.row none none (hr x hm')).use ?_
              by_cases hrw : x.row = y.row
              · have hxy : x = y := (Wr.eq_iff x y).2 ⟨htb, hgn, hrw⟩
                simp [h5, h0, h1, hlt, hlt2, hgi, hgi2, htb, hgn, pureG, pureO, opVal, e2, hrw]
                refine ⟨a.length - (i + 1), by omega, ?_⟩
                rw [hI]
                exact ⟨i + 1, rfl, by omega, by simp, by simp [h0], by simp [h1], rfl, by rw [hdr, hdr2]; simpa [hxy] using hn⟩
              · have hxy : ¬ x = y := fun h => hrw (by rw [h])
                simp [hxy] at hn
                subst hn
                simp [h5, h0, h1, hlt, hlt2, hgi, hgi2, htb, hgn, pureG, pureO, opVal, e2, hrw]
            · have hxy : ¬ x = y := fun h => hgn (by rw [h])
              simp [hxy] at hn
              subst hn
              simp [h5, h0, h1, hlt, hlt2, hgi, hgi2, htb, hgn, List.range, List.range.loop, pureG, pureO, opVal]
          · have hxy : ¬ x = y := fun h => htb (by rw [h])
            simp [hxy] at hn
            subst hn
            simp [h5, h0, h1, hlt, hlt2, hgi, hgi2, htb, List.range, List.range.loop, pureG, pureO, opVal]
  · have : a ≠ b := fun e => hlen (by rw [e])
    simp [Tryz.f14, hlen, ← hR, this]
end Go.Proofs.YtjhnabdcmfjeoaaGreatDoor.Ab
/- Plain laws: what was encoded is read as it was: numbers, texts, values, rows. Own work. -/
set_option linter.unusedSimpArgs false
set_option linter.unusedVariables false
namespace Go.Proofs.YtjhnabdcmfjeoaaGreatDoor.Ab
open Go

theorem uintR_back (rest : List UInt8) : ∀ (n i acc : Nat), n * 2 ^ (7 * i) < 2 ^ 64 → (i = 0 ∨ n ≠ 0) → uintR (uintB n ++ rest) i acc = (acc + n * 2 ^ (7 * i), i + (uintB n).length, 0) := by
  intro n
  induction n using Nat.strongRecOn with
  | _ n ih =>
    intro i acc h hi
    have hi9 : i ≤ 9 := by
      rcases hi with rfl | hn
      · omega
      · refine Nat.le_of_not_lt fun h10 => ?_
        have h1 : 1 * 2 ^ 70 ≤ n * 2 ^ (7 * i) := Nat.mul_le_mul (by omega) (Nat.pow_le_pow_right (by omega) (by omega))
        omega
    unfold uintB
    by_cases hlt : n < 128
    · rw [if_pos hlt]
      have hc : (UInt8.ofNat n).toNat = n := by simp; omega
      simp only [List.cons_append, List.nil_append, uintR, hc]
      rw [if_neg (by omega), if_neg (by
        rintro ⟨rfl, h1⟩
        have : 2 * 2 ^ (7 * 9) ≤ n * 2 ^ (7 * 9) := Nat.mul_le_mul_right _ (by omega)
        omega), if_pos hlt, if_neg (by omega)]
      simp
    · rw [if_neg hlt]
      have hc : (UInt8.ofNat (n % 128 + 128)).toNat = n % 128 + 128 := by simp; omega
      simp only [List.cons_append, uintR, hc]
      rw [if_neg (by omega), if_neg (by
        rintro ⟨rfl, h1⟩
        have : 128 * 2 ^ (7 * 9) ≤ n * 2 ^ (7 * 9) := Nat.mul_le_mul_right _ (by omega)
        omega), if_neg (by omega)]
      have hmul : n * 2 ^ (7 * i) = n % 128 * 2 ^ (7 * i) + n / 128 * 2 ^ (7 * (i + 1)) := by
        rw [show 7 * (i + 1) = 7 + 7 * i by omega, Nat.pow_add, ← Nat.mul_assoc, ← Nat.add_mul]
        congr 1
        omega
      rw [ih (n / 128) (by omega) (i + 1) _ (by omega) (.inr (by omega))]
      simp only [Prod.mk.injEq, List.length_cons, and_true]
      exact ⟨by rw [hmul]; simp; omega, by omega⟩

theorem uintD_back (n : Nat) (rest : List UInt8) (h : n < 2 ^ 64) : uintD (uintB n ++ rest) = (n, (uintB n).length, 0) := by
  unfold uintD
  rw [uintR_back rest n 0 0 (by simpa using h) (.inl rfl)]
  simp

theorem textD_back (s rest : List UInt8) (m : Int) (hs : s.length < 2 ^ 64) (hm : (s.length : Int) ≤ m) : textD (uintB s.length ++ s ++ rest) m = (s, (uintB s.length).length + s.length, 0) := by
  unfold textD
  rw [List.append_assoc, uintD_back _ _ hs]
  simp only
  rw [if_neg (by omega), if_neg (by simp), if_neg (by omega), if_neg (by simp)]
  simp

theorem unzig_zig (n : Int) : unzig (zig n) = n := by
  unfold unzig zig
  split
  · rename_i h
    rw [if_pos (by omega)]; omega
  · rename_i h
    rw [if_neg (by omega)]; omega

theorem V.cases_valid (v : V) (h : v.valid = 0) : (v = ⟨0, 0, [], false⟩) ∨ (v = ⟨1, v.n, [], false⟩) ∨ (v = ⟨2, 0, v.t, false⟩ ∧ v.t.length ≤ 4096 ∧ v.t.any badC = false) ∨ (v = ⟨3, 0, [], v.b⟩) := by
  obtain ⟨k, n, t, b⟩ := v
  simp only [V.valid, V.bare] at h
  split at h
  · cases h
  · rename_i h1
    split at h
    · cases h
    · rename_i h2
      split at h
      · cases h
      · rename_i h3
        simp only [not_or] at h1
        obtain ⟨a1, a2, a3⟩ := h1
        simp only [Bool.not_eq_false, Bool.and_eq_true, Bool.or_eq_true, decide_eq_true_eq] at a3
        obtain ⟨⟨b1, b2⟩, b3⟩ := a3
        have hk : k = 0 ∨ k = 1 ∨ k = 2 ∨ k = 3 := by omega
        rcases hk with rfl | rfl | rfl | rfl <;> simp at b1 b2 b3 ⊢
        · exact ⟨b1, b2, b3⟩
        · exact ⟨b2, b3⟩
        · exact ⟨⟨b1, b3⟩, by omega, by simpa using h3⟩
        · exact ⟨b1, b2⟩

theorem chkR_cons (c : Col) (cs : List Col) (v : V) (vs : List V) (h : chkR (c :: cs) (v :: vs) = 0) : fitE c v = 0 ∧ chkR cs vs = 0 := by
  simp only [chkR] at h
  split at h
  · rename_i h1; exact absurd h h1
  · rename_i h1; exact ⟨by simpa using h1, h⟩

theorem rowR_back (rest : List UInt8) : ∀ (cs : List Col) (l acc : List V), cs.length = l.length → chkR cs l = 0 → (∀ v ∈ l, v.fits) → rowR cs (rowBs l ++ rest) acc = some (acc ++ l, rest)
  | [], [], acc, _, _, _ => by simp [rowR, rowBs]
  | [], _ :: _, _, h, _, _ => by simp at h
  | _ :: _, [], _, h, _, _ => by simp at h
  | c :: cs, v :: l, acc, hlen, hchk, hf => by
    obtain ⟨h1, h2⟩ := chkR_cons c cs v l hchk
    have ih := fun x => rowR_back rest cs l (acc ++ [x]) (by simpa using hlen) h2 fun v hv => hf v (by simp [hv])
    have hv : v.valid = 0 := by
      simp only [fitE] at h1
      split at h1
      · rename_i hn; exact absurd h1 hn
      · rename_i hn; simpa using hn
    have hvf := hf v (by simp)
    have hk : v.k = 0 ∨ v.k = c.kind := by
      simp only [fitE] at h1
      rw [if_neg (by simp [hv])] at h1
      by_cases h0 : v.k = 0
      · exact .inl h0
      · rw [if_neg h0] at h1
        split at h1
        · cases h1
        · rename_i hn; exact .inr (by simpa using hn)
    simp only [rowBs, List.flatMap_cons, List.append_assoc] at ih ⊢
    rcases V.cases_valid v hv with e | e | ⟨e, hl, _⟩ | e
    · rw [e]
      simp [rowB, rowR, nullV] at ih ⊢
      exact ih _
    · have hc : c.kind = 1 := by rw [e] at hk; simp at hk; exact hk.symm
      rw [e]
      simp only [rowB]
      simp [rowR, roneD, hc, intD, uintD_back _ _ (zig_lt v.n hvf.n1 hvf.n2), unzig_zig]
      simpa using ih ⟨1, v.n, [], false⟩
    · have hc : c.kind = 2 := by rw [e] at hk; simp at hk; exact hk.symm
      have ht := textD_back v.t ((l.flatMap rowB) ++ rest) 4096 (by omega) (by omega)
      rw [e]
      simp only [rowB]
      simp [rowR, roneD, hc, List.append_assoc] at ht ⊢
      rw [ht]
      have hd : List.drop ((uintB v.t.length).length + v.t.length) (uintB v.t.length ++ (v.t ++ (List.flatMap rowB l ++ rest))) = List.flatMap rowB l ++ rest := by
        rw [← List.append_assoc, ← List.length_append, List.drop_left]
      simp only [hd]
      simpa using ih ⟨2, 0, v.t, false⟩
    · have hc : c.kind = 3 := by rw [e] at hk; simp at hk; exact hk.symm
      rw [e]
      simp only [rowB]
      cases hb : v.b with
      | true => simp [rowR, roneD, hc]; simpa using ih ⟨3, 0, [], true⟩
      | false => simp [rowR, roneD, hc]; simpa using ih ⟨3, 0, [], false⟩

theorem rowD_back (t : Tb) (l : List V) (hf : ∀ v ∈ l, v.fits) (h : (rowE t l).2 = 0) : rowD t (rowE t l).1 = (l, 0) := by
  unfold rowE at h ⊢
  split at h
  · rename_i hn; exact absurd h hn
  · rename_i hn
    rw [if_neg hn]
    have hchk : chkE t l = 0 := by simpa using hn
    have hlen : l.length = t.cols.length := by
      by_cases h : l.length = t.cols.length
      · exact h
      · rw [chkE, if_pos h] at hchk; cases hchk
    have hc := hchk
    rw [chkE, if_neg (by omega)] at hc
    have := rowR_back [] t.cols l [] hlen.symm hc hf
    simp only [List.append_nil, List.nil_append] at this
    simp only [rowD, this, hchk]
    simp

/-! values one behind another -/
theorem numB_app : ∀ (a b : List UInt8) (acc : Nat), numB (a ++ b) acc = numB b (numB a acc)
  | [], _, _ => rfl
  | c :: a, b, acc => by simp only [List.cons_append, numB]; exact numB_app a b _
theorem numB_word (n : Nat) (h : n < 2 ^ 64) : numB (wordB n) 0 = n := by
  simp only [wordB, numB, UInt8.toNat_ofNat']
  simp only [Nat.mod_mod]
  omega
theorem wordB_len (n : Nat) : (wordB n).length = 8 := rfl

theorem indexByte_zero : ∀ (t r : List UInt8), (∀ c ∈ t, c ≠ 0) → Lib.indexByte (t ++ 0 :: r) 0 = t.length
  | [], r, _ => by simp [Lib.indexByte]
  | c :: t, r, h => by
    have ih := indexByte_zero t r fun x hx => h x (by simp [hx])
    have hc := h c (by simp)
    simp [Lib.indexByte, ih, hc]
theorem cut_zero (t r : List UInt8) (h : ∀ c ∈ t, c ≠ 0) : Lib.cut (t ++ 0 :: r) [0] = (t, r, true) := by
  have hi := indexByte_zero t r h
  rw [← Lib.index_one] at hi
  unfold Lib.cut
  rw [hi, if_pos (by omega)]
  simp

theorem oneD_back (v : V) (rest : List UInt8) (h : v.valid = 0) (hf : v.fits) : oneD (encV v ++ rest) = (v, rest, true) := by
  rcases V.cases_valid v h with e | e | ⟨e, hl, hb⟩ | e
  · rw [e]; simp [encV, oneD, nullV]
  · have h1 := hf.n1
    have h2 := hf.n2
    rw [e]
    simp [encV, oneD, wordB_len]
    have : List.take 8 (wordB (v.n + 9223372036854775808).toNat ++ rest) = wordB (v.n + 9223372036854775808).toNat := by
      rw [← wordB_len (v.n + 9223372036854775808).toNat, List.take_left]
    rw [this, numB_word _ (by omega)]
    have hd : List.drop 8 (wordB (v.n + 9223372036854775808).toNat ++ rest) = rest := by
      rw [← wordB_len (v.n + 9223372036854775808).toNat, List.drop_left]
    rw [if_neg (by omega), hd]
    simp
    omega
  · have hz : ∀ c ∈ v.t, c ≠ 0 := by
      intro c hc h0
      have := List.any_eq_false.1 hb c hc
      subst h0
      simp [badC] at this
    have := cut_zero v.t rest hz
    rw [e]
    simp [encV, oneD, this]
  · rw [e]
    cases v.b <;> simp [encV, oneD]

theorem ordR_back : ∀ (l acc : List V) (f : Nat), (∀ v ∈ l, v.valid = 0 ∧ v.fits) → acc.length + l.length ≤ 16 → l.length < f → ordR f (encVs l) acc = (acc ++ l, 0)
  | [], acc, f + 1, _, _, _ => by simp [encVs, ordR]
  | v :: l, acc, f + 1, h, hl, hf => by
    obtain ⟨h1, h2⟩ := h v (by simp)
    have ho := oneD_back v (encVs l) h1 h2
    have e : encVs (v :: l) = encV v ++ encVs l := by simp [encVs]
    simp only [List.length_cons] at hl hf
    have ih := ordR_back l (acc ++ [v]) f (fun x hx => h x (by simp [hx])) (by simp; omega) (by omega)
    rw [e]
    have hc : ∃ c s, encV v ++ encVs l = c :: s := by unfold encV; exact ⟨_, _, rfl⟩
    obtain ⟨c, s, hcs⟩ := hc
    rw [hcs] at ho ⊢
    simp only [ordR, ho, h1]
    rw [if_neg (by simp; omega), ih]
    simp

theorem ordD_back (l : List V) (hf : ∀ v ∈ l, v.fits) (h : (ordE l).2 = 0) : ordD (ordE l).1 = (l, 0) := by
  unfold ordE at h ⊢
  split at h
  · rename_i hn; exact absurd h hn
  · rename_i hn
    split at h
    · cases h
    · rename_i h16
      rw [if_neg hn, if_neg h16]
      have hv := firstBad_all l (by simpa using hn)
      have := ordR_back l [] 17 (fun v hm => ⟨hv v hm, hf v hm⟩) (by simp; omega) (by omega)
      simpa [ordD] using this
end Go.Proofs.YtjhnabdcmfjeoaaGreatDoor.Ab
/- Plain laws: entries and commits are read as they were. Own work. -/
set_option linter.unusedSimpArgs false
set_option linter.unusedVariables false
namespace Go.Proofs.YtjhnabdcmfjeoaaGreatDoor.Ab
open Go

theorem rdUint_back (n : Nat) (rest : List UInt8) (m : Int) (h : n < 2 ^ 64) (hm : (n : Int) ≤ m) : rdUint (uintB n ++ rest, false) m = ((rest, false), n) := by
  unfold rdUint
  simp only [uintD_back n rest h]
  rw [if_neg (by simp; omega)]
  simp
theorem rdText_back (s rest : List UInt8) (h : s.length < 2 ^ 64) : rdText (uintB s.length ++ s ++ rest, false) = ((rest, false), s) := by
  unfold rdText
  have := textD_back s rest (uintB s.length ++ s ++ rest).length h (by simp; omega)
  simp only [this]
  simp
theorem rdByte_back (c : UInt8) (rest : List UInt8) (m : Nat) (h : c.toNat ≤ m) : rdByte (c :: rest, false) m = ((rest, false), c.toNat) := by
  simp only [rdByte]
  rw [if_neg (by omega)]

theorem rdMany_back (n : Nat) (rest : List UInt8) (h : n < 2 ^ 64) (hn : n ≤ rest.length) : rdMany (uintB n ++ rest, false) = ((rest, false), n) := by
  unfold rdMany
  exact rdUint_back n rest _ h (by simp; omega)

theorem rdValues_back (l : List V) (rest : List UInt8) (hf : ∀ v ∈ l, v.fits) (h : (ordE l).2 = 0) : rdValues (uintB (ordE l).1.length ++ (ordE l).1 ++ rest, false) = ((rest, false), l) := by
  have := ordE_len l
  unfold rdValues
  rw [rdText_back _ _ (by omega)]
  simp [ordD_back l hf h]

/-! entries -/
/-- What lines come to, behind nothing. -/
def linesB : List (List V) → List UInt8
  | [] => []
  | l :: ls => uintB (ordE l).1.length ++ (ordE l).1 ++ linesB ls
theorem uintB_pos (n : Nat) : 1 ≤ (uintB n).length := by unfold uintB; split <;> simp
theorem linesB_len : ∀ ls : List (List V), ls.length ≤ (linesB ls).length
  | [] => by simp [linesB]
  | l :: ls => by
    have h1 := linesB_len ls
    have h2 := uintB_pos (ordE l).1.length
    simp only [linesB, List.length_append, List.length_cons]; omega
theorem linesR_ok : ∀ (ls : List (List V)) (b : List UInt8), (linesR ls b).2 = 0 → linesR ls b = (b ++ linesB ls, 0) ∧ ∀ l ∈ ls, (ordE l).2 = 0
  | [], b, _ => by simp [linesR, linesB]
  | l :: ls, b, h => by
    simp only [linesR] at h ⊢
    split at h
    · rename_i h0
      obtain ⟨h1, h2⟩ := linesR_ok ls _ h
      rw [if_pos h0, h1]
      refine ⟨by simp [linesB], fun x hx => ?_⟩
      rcases List.mem_cons.1 hx with rfl | hx
      · exact h0
      · exact h2 x hx
    · rename_i h0; exact absurd h h0

theorem rdLines_back : ∀ (ls acc : List (List V)) (rest : List UInt8), (∀ l ∈ ls, (ordE l).2 = 0 ∧ ∀ v ∈ l, v.fits) → rdLines ls.length (linesB ls ++ rest, false) acc = ((rest, false), acc ++ ls)
  | [], acc, rest, _ => by simp [rdLines, linesB]
  | l :: ls, acc, rest, h => by
    obtain ⟨h1, h2⟩ := h l (by simp)
    have hv := rdValues_back l (linesB ls ++ rest) h2 h1
    have ih := rdLines_back ls (acc ++ [l]) rest fun x hx => h x (by simp [hx])
    simp only [List.length_cons, rdLines, linesB]
    rw [if_neg (by simp)]
    rw [show uintB (ordE l).1.length ++ (ordE l).1 ++ linesB ls ++ rest = uintB (ordE l).1.length ++ (ordE l).1 ++ (linesB ls ++ rest) by simp, hv]
    simp only
    rw [ih]
    simp

theorem decEn_back (e : En) (hf : e.fits) (h : (encEn e).2 = 0) : decEn (encEn e).1 = (e, 0) ∧ (∃ r, (encEn e).1 = 2 :: r) ∧ (encEn e).1 = enHead e ++ linesB e.lines := by
  unfold encEn at h ⊢
  split at h
  · cases h
  · rename_i hn
    have hname : nameB e.view = true := by simpa using hn
    have hvl := nameB_len hname
    rw [if_neg hn]
    obtain ⟨h1, h2⟩ := linesR_ok e.lines _ h
    rw [h1]
    have e1 : enHead e ++ linesB e.lines = 2 :: (uintB e.view.length ++ e.view ++ (uintB e.lines.length ++ linesB e.lines)) := by simp [enHead]
    simp only
    rw [e1]
    have hn := hf.n
    have hb := rdByte_back 2 (uintB e.view.length ++ e.view ++ (uintB e.lines.length ++ linesB e.lines)) 2 (by decide)
    have ht := rdText_back e.view (uintB e.lines.length ++ linesB e.lines) (by omega)
    have hm := rdMany_back e.lines.length (linesB e.lines) (by omega) (linesB_len _)
    have hl := rdLines_back e.lines [] [] fun l hl => ⟨h2 l hl, (hf.l l hl).2⟩
    have hh : rdEnHead (2 :: (uintB e.view.length ++ e.view ++ (uintB e.lines.length ++ linesB e.lines)), false) = (uintB e.view.length ++ e.view ++ (uintB e.lines.length ++ linesB e.lines), false) := by
      unfold rdEnHead
      rw [hb]
      rfl
    have hr : rdEntry (2 :: (uintB e.view.length ++ e.view ++ (uintB e.lines.length ++ linesB e.lines)), false) = (([], false), e) := by
      unfold rdEntry
      simp only
      rw [hh, ht]
      simp only
      rw [hm]
      simp only
      rw [List.append_nil] at hl
      rw [hl]
      simp [hname]
    exact ⟨by unfold decEn; rw [hr]; simp, ⟨_, rfl⟩, trivial⟩

/-! commits -/
theorem tbIdx_get (s : List UInt8) : ∀ (l : List Tb) (i n : Nat), tbIdx l s i = some n → ∃ t, l[n - i]? = some t ∧ t.name = s
  | [], _, _, h => by cases h
  | t :: r, i, n, h => by
    simp only [tbIdx] at h
    split at h
    · rename_i ht; cases h; exact ⟨t, by simp, ht⟩
    · obtain ⟨u, h1, h2⟩ := tbIdx_get s r (i + 1) n h
      have := tbIdx_lt s r (i + 1) n h
      refine ⟨u, ?_, h2⟩
      rw [show n - i = (n - (i + 1)) + 1 by omega]
      simpa using h1

theorem findT_get {l : List Tb} {s : List UInt8} (h : (findT l s).2.2 = 0) : (findT l s).1 < l.length ∧ l[(findT l s).1]? = some (findT l s).2.1 ∧ (findT l s).2.1.name = s := by
  unfold findT at h ⊢
  cases hi : tbIdx l s 0 with
  | none => rw [hi] at h; cases h
  | some n =>
    obtain ⟨t, h1, h2⟩ := tbIdx_get s l 0 n hi
    have h3 := tbIdx_lt s l 0 n hi
    simp only [Nat.sub_zero] at h1
    simp only [h1, Option.getD_some]
    exact ⟨by omega, trivial, h2⟩

theorem keyE_ord {t : Tb} {l : List V} (h : (keyE t l).2 = 0) : keyE t l = ordE l := by
  unfold keyE at h ⊢
  split at h
  · cases h
  · rename_i h1
    split at h
    · rename_i h2; exact absurd h h2
    · rename_i h2; rw [if_neg h1, if_neg h2]

theorem rdWrite_back (l : List Tb) (w : Wr) (rest : List UInt8) (hl : l.length ≤ 32) (hf : ∀ v ∈ w.row, v.fits) (hr : w.row.length ≤ 2 ^ 20) (h : (wrB l w).2 = 0) : rdWrite ((wrB l w).1 ++ rest, false) l = ((rest, false), w) := by
  have hRl := rowE_len (findT l w.table).2.1 w.row hf
  have hKl := keyE_len (findT l w.table).2.1 w.row
  unfold wrB at h ⊢
  split at h
  · rename_i hn; exact absurd h hn
  rename_i hn
  have hf0 : (findT l w.table).2.2 = 0 := by simpa using hn
  obtain ⟨f1, f2, f3⟩ := findT_get hf0
  rw [if_neg hn]
  generalize findT l w.table = x at hRl hKl f1 f2 f3 h ⊢
  obtain ⟨n, t, e⟩ := x
  simp only at hRl hKl f1 f2 f3 h ⊢
  have ht : tableE l (n : Int) = (t, 0) := by
    unfold tableE
    rw [if_neg (by omega), Int.toNat_natCast, f2]
  cases hg : w.gone with
  | true =>
    rw [hg] at h
    simp only [if_true] at h ⊢
    split at h
    · rename_i h1; exact absurd h h1
    rename_i h1
    rw [if_neg h1]
    have hk0 : (keyE t w.row).2 = 0 := by simpa using h1
    have ho := keyE_ord hk0
    have ho0 : (ordE w.row).2 = 0 := by rw [← ho]; exact hk0
    rw [ho]
    have e1 : uintB n ++ 1 :: (uintB (ordE w.row).1.length ++ (ordE w.row).1) ++ rest = uintB n ++ (1 :: (uintB (ordE w.row).1.length ++ (ordE w.row).1 ++ rest)) := by simp
    simp only
    rw [e1]
    have a1 := rdUint_back n (1 :: (uintB (ordE w.row).1.length ++ (ordE w.row).1 ++ rest)) 32 (by omega) (by omega)
    have a2 := rdByte_back 1 (uintB (ordE w.row).1.length ++ (ordE w.row).1 ++ rest) 1 (by decide)
    have a3 := rdValues_back w.row rest hf ho0
    unfold rdWrite
    rw [a1]
    simp only [ht]
    rw [if_neg (by simp), a2]
    simp only
    rw [if_pos (by decide), a3]
    simp only [hk0]
    rw [if_neg (by simp)]
    rw [f3]
    cases w; simp at hg ⊢; exact hg
  | false =>
    rw [hg] at h
    simp only [Bool.false_eq_true, if_false] at h ⊢
    split at h
    · rename_i h1; exact absurd h h1
    rename_i h1
    rw [if_neg h1]
    have hk0 : (rowE t w.row).2 = 0 := by simpa using h1
    have e1 : uintB n ++ 0 :: (uintB (rowE t w.row).1.length ++ (rowE t w.row).1) ++ rest = uintB n ++ (0 :: (uintB (rowE t w.row).1.length ++ (rowE t w.row).1 ++ rest)) := by simp
    simp only
    rw [e1]
    have a1 := rdUint_back n (0 :: (uintB (rowE t w.row).1.length ++ (rowE t w.row).1 ++ rest)) 32 (by omega) (by omega)
    have a2 := rdByte_back 0 (uintB (rowE t w.row).1.length ++ (rowE t w.row).1 ++ rest) 1 (by decide)
    have a3 := rdText_back (rowE t w.row).1 rest (by omega)
    have a4 := rowD_back t w.row hf hk0
    unfold rdWrite
    rw [a1]
    simp only [ht]
    rw [if_neg (by simp), a2]
    simp only
    rw [if_neg (by decide)]
    unfold rdRow
    rw [a3]
    simp only [a4]
    rw [f3]
    cases w; simp at hg ⊢; exact hg

def wrsB (l : List Tb) : List Wr → List UInt8
  | [] => []
  | w :: ws => (wrB l w).1 ++ wrsB l ws
theorem wrsR_ok (l : List Tb) : ∀ (ws : List Wr) (b : List UInt8), (wrsR l ws b).2 = 0 → wrsR l ws b = (b ++ wrsB l ws, 0) ∧ ∀ w ∈ ws, (wrB l w).2 = 0
  | [], b, _ => by simp [wrsR, wrsB]
  | w :: ws, b, h => by
    simp only [wrsR] at h ⊢
    split at h
    · rename_i h0
      obtain ⟨h1, h2⟩ := wrsR_ok l ws _ h
      rw [if_pos h0, h1]
      refine ⟨by simp [wrsB], fun x hx => ?_⟩
      rcases List.mem_cons.1 hx with rfl | hx
      · exact h0
      · exact h2 x hx
    · rename_i h0; exact absurd h h0
theorem wrB_pos (l : List Tb) (w : Wr) (h : (wrB l w).2 = 0) : 1 ≤ (wrB l w).1.length := by
  have hu := uintB_pos (findT l w.table).1
  unfold wrB at h ⊢
  split at h
  · rename_i h1; exact absurd h h1
  rename_i h1
  rw [if_neg h1]
  split at h
  · rename_i h2
    rw [if_pos h2]
    split at h
    · rename_i h3; exact absurd h h3
    · rename_i h3; rw [if_neg h3]; simp; omega
  · rename_i h2
    rw [if_neg h2]
    split at h
    · rename_i h3; exact absurd h h3
    · rename_i h3; rw [if_neg h3]; simp; omega
theorem wrsB_len (l : List Tb) : ∀ ws : List Wr, (∀ w ∈ ws, (wrB l w).2 = 0) → ws.length ≤ (wrsB l ws).length
  | [], _ => by simp [wrsB]
  | w :: ws, h => by
    have h1 := wrsB_len l ws fun x hx => h x (by simp [hx])
    have h2 := wrB_pos l w (h w (by simp))
    simp only [wrsB, List.length_append, List.length_cons]; omega

theorem rdWrites_back (l : List Tb) (hl : l.length ≤ 32) : ∀ (ws acc : List Wr) (rest : List UInt8), (∀ w ∈ ws, (wrB l w).2 = 0 ∧ w.row.length ≤ 2 ^ 20 ∧ ∀ v ∈ w.row, v.fits) → rdWrites l ws.length (wrsB l ws ++ rest, false) acc = ((rest, false), acc ++ ws)
  | [], acc, rest, _ => by simp [rdWrites, wrsB]
  | w :: ws, acc, rest, h => by
    obtain ⟨h1, h2, h3⟩ := h w (by simp)
    have hv := rdWrite_back l w (wrsB l ws ++ rest) hl h3 h2 h1
    have ih := rdWrites_back l hl ws (acc ++ [w]) rest fun x hx => h x (by simp [hx])
    simp only [List.length_cons, rdWrites, wrsB]
    rw [if_neg (by simp), List.append_assoc, hv]
    simp only
    rw [ih]
    simp

theorem rdDeps_back : ∀ (ds acc : List Int) (rest : List UInt8), (∀ n ∈ ds, 0 ≤ n ∧ n ≤ 9223372036854775807) → rdDeps ds.length (depsB ds ++ rest, false) acc = ((rest, false), acc ++ ds)
  | [], acc, rest, _ => by simp [rdDeps, depsB]
  | n :: ds, acc, rest, h => by
    obtain ⟨h1, h2⟩ := h n (by simp)
    have ih := rdDeps_back ds (acc ++ [n]) rest fun x hx => h x (by simp [hx])
    have hu := rdUint_back n.toNat (depsB ds ++ rest) 9223372036854775807 (by omega) (by omega)
    have e : depsB (n :: ds) = uintB n.toNat ++ depsB ds := by simp [depsB]
    simp only [List.length_cons, rdDeps]
    rw [e, List.append_assoc, hu]
    simp only
    rw [Int.toNat_of_nonneg h1, ih]
    simp

theorem decD_back (l : List Tb) (d : Dn) (hl : l.length ≤ 32) (hf : d.fits) (h : (encD l d).2 = 0) : decD l (encD l d).1 = (⟨0, d.number, d.deps, d.writes⟩, 0) ∧ ∃ r, (encD l d).1 = 1 :: r := by
  unfold encD at h ⊢
  split at h
  · cases h
  rename_i c1
  rw [if_neg c1]
  split at h
  · cases h
  rename_i c2
  rw [if_neg c2]
  simp only [not_or, Int.not_lt, Nat.not_lt] at c1
  obtain ⟨n1, n16⟩ := c1
  have hneg : ∀ n ∈ d.deps, 0 ≤ n := by
    intro n hn
    refine Int.not_lt.1 fun hc => c2 (List.any_eq_true.2 ⟨n, hn, by simpa using hc⟩)
  obtain ⟨w1, w2⟩ := wrsR_ok l d.writes _ h
  rw [w1]
  have hn1 := hf.n1
  have hwl := hf.wlen
  have e1 : headB d ++ wrsB l d.writes = 1 :: (uintB d.number.toNat ++ (uintB d.deps.length ++ (depsB d.deps ++ (uintB d.writes.length ++ wrsB l d.writes)))) := by simp [headB]
  simp only
  rw [e1]
  refine ⟨?_, _, rfl⟩
  have a1 := rdByte_back 1 (uintB d.number.toNat ++ (uintB d.deps.length ++ (depsB d.deps ++ (uintB d.writes.length ++ wrsB l d.writes)))) 1 (by decide)
  have a2 := rdUint_back d.number.toNat (uintB d.deps.length ++ (depsB d.deps ++ (uintB d.writes.length ++ wrsB l d.writes))) 9223372036854775807 (by omega) (by omega)
  have a3 := rdUint_back d.deps.length (depsB d.deps ++ (uintB d.writes.length ++ wrsB l d.writes)) 16 (by omega) (by omega)
  have a4 := rdDeps_back d.deps [] (uintB d.writes.length ++ wrsB l d.writes) fun n hn => ⟨hneg n hn, hf.deps n hn⟩
  have a5 := rdMany_back d.writes.length (wrsB l d.writes) (by omega) (wrsB_len l _ w2)
  have a6 := rdWrites_back l hl d.writes [] [] fun w hw => ⟨w2 w hw, (hf.rows w hw).1, (hf.rows w hw).2⟩
  rw [List.append_nil] at a6
  unfold decD
  have hh : decHead (1 :: (uintB d.number.toNat ++ (uintB d.deps.length ++ (depsB d.deps ++ (uintB d.writes.length ++ wrsB l d.writes))))) = (uintB d.number.toNat ++ (uintB d.deps.length ++ (depsB d.deps ++ (uintB d.writes.length ++ wrsB l d.writes))), false) := by
    unfold decHead
    rw [a1]
    rfl
  simp only [hh, a2, a3, a4, a5, a6]
  rw [if_neg (by simp; omega)]
  simp
  omega
end Go.Proofs.YtjhnabdcmfjeoaaGreatDoor.Ab
/- Plain laws: how long what is encoded can be; bytes of another kind. Own work. -/
set_option linter.unusedSimpArgs false
set_option linter.unusedVariables false
namespace Go.Proofs.YtjhnabdcmfjeoaaGreatDoor.Ab
open Go

def tot : List V → Nat
  | [] => 0
  | v :: l => v.t.length + 1 + tot l
def wtot : List Wr → Nat
  | [] => 0
  | w :: l => tot w.row + 1 + wtot l
def ltot : List (List V) → Nat
  | [] => 0
  | w :: l => tot w + 1 + ltot l

theorem encVs_tot : ∀ l : List V, (encVs l).length ≤ 12 * tot l
  | [] => by simp [encVs, tot]
  | v :: l => by
    have ih := encVs_tot l
    have h1 : (encV v).length ≤ 9 + v.t.length := by
      unfold encV
      split
      · simp [wordB_len]
      · split
        · simp; omega
        · split <;> simp <;> omega
    have e : encVs (v :: l) = encV v ++ encVs l := by simp [encVs]
    rw [e, List.length_append]
    simp only [tot]; omega
theorem rowBs_tot : ∀ l : List V, (∀ v ∈ l, v.fits) → (rowBs l).length ≤ 12 * tot l
  | [], _ => by simp [rowBs, tot]
  | v :: l, h => by
    have ih := rowBs_tot l fun x hx => h x (by simp [hx])
    have hf := h v (by simp)
    have h1 : (rowB v).length ≤ 11 + v.t.length := by
      unfold rowB
      have a1 := uintB_len 9 (zig v.n) (by have := zig_lt v.n hf.n1 hf.n2; omega)
      have a2 := uintB_len 9 v.t.length (by have := hf.t; omega)
      split
      · simp; omega
      · split
        · simp; omega
        · split
          · simp; omega
          · simp; omega
    have e : rowBs (v :: l) = rowB v ++ rowBs l := by simp [rowBs]
    rw [e, List.length_append]
    simp only [tot]; omega
theorem ordE_tot (l : List V) : (ordE l).1.length ≤ 12 * tot l := by
  unfold ordE
  split
  · simp
  · split
    · simp
    · exact encVs_tot l
theorem keyE_tot (t : Tb) (l : List V) : (keyE t l).1.length ≤ 12 * tot l := by
  unfold keyE
  split
  · simp
  · split
    · simp
    · exact ordE_tot l
theorem rowE_tot (t : Tb) (l : List V) (hf : ∀ v ∈ l, v.fits) : (rowE t l).1.length ≤ 12 * tot l := by
  unfold rowE
  split
  · simp
  · exact rowBs_tot l hf

theorem wrB_tot (l : List Tb) (w : Wr) (hf : ∀ v ∈ w.row, v.fits) (hll : l.length ≤ 2 ^ 40) (hw : tot w.row ≤ 2 ^ 40) : (wrB l w).1.length ≤ 30 * (tot w.row + 1) := by
  have hk := keyE_tot (findT l w.table).2.1 w.row
  have hR := rowE_tot (findT l w.table).2.1 w.row hf
  have hlt := tbIdx_lt w.table l 0
  have hn : (findT l w.table).1 ≤ l.length := by
    unfold findT
    cases h : tbIdx l w.table 0 with
    | none => simp
    | some n => have := hlt n h; simp; omega
  have h1 := uintB_len 9 (findT l w.table).1 (by omega)
  have h2 := uintB_len 9 (keyE (findT l w.table).2.1 w.row).1.length (by omega)
  have h3 := uintB_len 9 (rowE (findT l w.table).2.1 w.row).1.length (by omega)
  unfold wrB
  split
  · simp
  · split
    · split
      · simp
      · simp; omega
    · split
      · simp
      · simp; omega

theorem wrsB_tot (l : List Tb) (hll : l.length ≤ 2 ^ 40) : ∀ ws : List Wr, (∀ w ∈ ws, ∀ v ∈ w.row, v.fits) → wtot ws ≤ 2 ^ 40 → (wrsB l ws).length ≤ 30 * wtot ws
  | [], _, _ => by simp [wrsB, wtot]
  | w :: ws, h, ht => by
    simp only [wtot] at ht
    have ih := wrsB_tot l hll ws (fun x hx => h x (by simp [hx])) (by omega)
    have h1 := wrB_tot l w (h w (by simp)) hll (by omega)
    simp only [wrsB, List.length_append, wtot]; omega

theorem linesB_tot : ∀ ls : List (List V), ltot ls ≤ 2 ^ 40 → (linesB ls).length ≤ 30 * ltot ls
  | [], _ => by simp [linesB, ltot]
  | l :: ls, ht => by
    simp only [ltot] at ht
    have ih := linesB_tot ls (by omega)
    have h1 := ordE_tot l
    have h2 := uintB_len 9 (ordE l).1.length (by omega)
    simp only [linesB, List.length_append, ltot]; omega

theorem depsB_len : ∀ l : List Int, (∀ n ∈ l, n ≤ 9223372036854775807) → (depsB l).length ≤ 10 * l.length
  | [], _ => by simp [depsB]
  | n :: l, h => by
    have ih := depsB_len l fun x hx => h x (by simp [hx])
    have hn := h n (by simp)
    have hu := uintB_len 9 n.toNat (by omega)
    have e : depsB (n :: l) = uintB n.toNat ++ depsB l := by simp [depsB]
    rw [e, List.length_append, List.length_cons]; omega

theorem encD_tot (l : List Tb) (d : Dn) (hf : d.fits) (hll : l.length ≤ 2 ^ 40) (ht : wtot d.writes ≤ 2 ^ 21) (h : (encD l d).2 = 0) : (encD l d).1.length < 4294967280 := by
  unfold encD at h ⊢
  split at h
  · cases h
  rename_i c1
  rw [if_neg c1]
  split at h
  · cases h
  rename_i c2
  rw [if_neg c2]
  obtain ⟨w1, w2⟩ := wrsR_ok l d.writes _ h
  rw [w1]
  have hw := wrsB_tot l hll d.writes (fun w hw => (hf.rows w hw).2) (by omega)
  have hn1 := hf.n1
  have hwl := hf.wlen
  have u1 := uintB_len 9 d.number.toNat (by omega)
  have u2 := uintB_len 9 d.deps.length (by omega)
  have u3 := uintB_len 9 d.writes.length (by omega)
  have hd := depsB_len d.deps hf.deps
  simp only [List.length_append, headB, List.length_cons]
  omega

theorem encEn_tot (e : En) (hf : e.fits) (ht : ltot e.lines ≤ 2 ^ 21) (h : (encEn e).2 = 0) : (encEn e).1.length < 4294967280 := by
  obtain ⟨_, _, he⟩ := decEn_back e hf h
  have hn : nameB e.view = true := by
    unfold encEn at h
    split at h
    · cases h
    · rename_i hn; simpa using hn
  have hv := nameB_len hn
  have hl := linesB_tot e.lines (by omega)
  have hn := hf.n
  have u1 := uintB_len 9 e.view.length (by omega)
  have u2 := uintB_len 9 e.lines.length (by omega)
  rw [he]
  simp only [List.length_append, enHead, List.length_cons, List.length_nil]
  omega

/-! bytes of another kind -/
theorem rdUint_bad (b : List UInt8) (m : Int) : rdUint (b, true) m = ((b, true), 0) := by simp [rdUint]
theorem decEn_one (r : List UInt8) : (decEn (1 :: r)).2 = 3 := by
  have h1 : rdByte (1 :: r, false) 2 = ((r, false), 1) := rdByte_back 1 r 2 (by decide)
  have h2 : rdEnHead (1 :: r, false) = (r, true) := by unfold rdEnHead; rw [h1]; rfl
  have h3 : (rdEntry (1 :: r, false)).1.2 = true := by
    unfold rdEntry
    rw [h2]
    simp [rdText, rdMany, rdUint_bad, rdLines]
  unfold decEn
  rw [if_pos (.inl h3)]
theorem decD_two (l : List Tb) (r : List UInt8) : (decD l (2 :: r)).2 = 3 := by
  have h1 : rdByte (2 :: r, false) 1 = ((2 :: r, true), 0) := by simp [rdByte]
  have h2 : decHead (2 :: r) = (2 :: r, true) := by unfold decHead; rw [h1]; rfl
  unfold decD
  rw [h2]
  simp [rdUint_bad, rdDeps, rdMany, rdWrites]
end Go.Proofs.YtjhnabdcmfjeoaaGreatDoor.Ab
