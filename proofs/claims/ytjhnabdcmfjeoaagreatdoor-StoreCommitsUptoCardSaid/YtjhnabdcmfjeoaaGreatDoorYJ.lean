/- The contracts of barbican/table's catalog (own, Len, Find, Table) and of store's find. Own work. -/
import Derived.Test.YtjhnabdcmfjeoaaGreatDoorYI
set_option linter.unusedSimpArgs false
set_option linter.unusedVariables false
namespace Go.Proofs.YtjhnabdcmfjeoaaGreatDoor.Ab
open Go

set_option maxRecDepth 20000
theorem clone_ok (gl : Nat → AV) (l : List Col) (o : Option (Nat × Own)) (hl : l.length ≤ 2 ^ 40) : PureA Tryz.prog gl 71 [.lst 4 (csA l) o] (.lst 4 (csA l) none) := by
  refine PureA.ofSub ?_
  refine calls_of_code (C := ⟨Tryz.prog, gl, 8, [5]⟩) (fn := Tryz.f71) rfl rfl rfl (by simp) (vc_sound _ _ _ _ ?_)
  simp [Tryz.f71]
  have k1 : l.length * 32 ≤ 140737488355328 := by omega
  refine ⟨?_, ?_⟩
  · exact fun q => ⟨by omega, by omega, fun q' => Sub.drop _ _ _⟩
  · intro h; rw [h]; exact Sub.nil _

theorem own_ok (gl : Nat → AV) (t : Tb) (hl : t.cols.length ≤ 2 ^ 40) : PureA Tryz.prog gl 44 [tA t] (tA t) := by
  refine CallsA.letgo ?_
  refine calls_of_code (C := ⟨Tryz.prog, gl, 8, [1]⟩) (fn := Tryz.f44) rfl rfl rfl (by simp) (vc_sound _ _ _ _ ?_)
  simp [Tryz.f44, tA]
  refine fun b b2 => (clone_ok gl t.cols none hl).use ?_
  simp

def tsA (l : List Tb) : List AV := l.map tA
@[simp] theorem tsA_len (l : List Tb) : (tsA l).length = l.length := by simp [tsA]
def mapE : List Tb → Nat → List (Value × AV)
  | [], _ => []
  | t :: r, i => (.string ⟨t.name.toArray⟩, .s (.int .i64 i)) :: mapE r (i + 1)
def catA (l : List Tb) : AV := .rp [.lst 2 (tsA l) none, .mpr (mapE l 0)]
def tbIdx : List Tb → List UInt8 → Nat → Option Nat
  | [], _, _ => none
  | t :: r, s, i => if t.name = s then some i else tbIdx r s (i + 1)
theorem lookS_mapE (s : List UInt8) : ∀ (l : List Tb) (i : Nat), lookS s (mapE l i) = some ((tbIdx l s i).map fun n => .s (.int .i64 n))
  | [], _ => rfl
  | t :: r, i => by
    simp only [mapE, lookS, tbIdx]
    split
    · rfl
    · exact lookS_mapE s r (i + 1)
theorem tbIdx_lt (s : List UInt8) : ∀ (l : List Tb) (i n : Nat), tbIdx l s i = some n → i ≤ n ∧ n < i + l.length
  | [], _, _, h => by cases h
  | t :: r, i, n, h => by
    simp only [tbIdx] at h
    split at h
    · cases h; simp
    · have := tbIdx_lt s r (i + 1) n h; simp only [List.length_cons]; omega

theorem catLen_ok (gl : Nat → AV) (l : List Tb) : PureA Tryz.prog gl 76 [catA l] (.s (.int .i64 l.length)) := by
  refine calls_of_code (C := ⟨Tryz.prog, gl, 10, []⟩) (fn := Tryz.f76) rfl rfl rfl (by simp) (vc_sound _ _ _ _ ?_)
  simp [Tryz.f76, catA]

def findE (l : List Tb) (s : List UInt8) : Nat × Nat := match tbIdx l s 0 with | some n => (n, 0) | none => (0, 30)
theorem catFind_ok (gl : Nat → AV) (l : List Tb) (s : List UInt8) : PureA Tryz.prog gl 72 [catA l, .s (strV s)] (.tup [.s (.int .i64 (findE l s).1), errA (findE l s).2]) := by
  refine calls_of_code (C := ⟨Tryz.prog, gl, 22, []⟩) (fn := Tryz.f72) rfl rfl rfl (by simp) (vc_sound _ _ _ _ ?_)
  have hm := lookS_mapE s l 0
  unfold findE
  cases h : tbIdx l s 0 with
  | none =>
    rw [h] at hm
    simp [Tryz.f72, catA, hm, errA]
  | some n =>
    rw [h] at hm
    simp [Tryz.f72, catA, hm, errA]

def noTb : Tb := ⟨[], []⟩
def tableE (l : List Tb) (i : Int) : Tb × Nat := if i < 0 then (noTb, 1) else match l[i.toNat]? with | some t => (t, 0) | none => (noTb, 1)
theorem sub_noTb : Sub (.agg [.s (.string ⟨#[]⟩), .s (.slice none 0 0)]) (tA noTb) := Sub.agg rfl fun i a b ha hb => by
  match i with
  | 0 => simp [noTb] at ha hb; subst ha hb; exact Sub.refl _
  | 1 => simp [noTb, csA] at ha hb; subst ha hb; exact Sub.nil _
  | i + 2 => simp at ha
theorem catTable_ok (gl : Nat → AV) (l : List Tb) (i : Int) (hl : ∀ t ∈ l, t.cols.length ≤ 2 ^ 40) : PureA Tryz.prog gl 56 [catA l, .s (.int .i64 i)] (.tup [tA (tableE l i).1, errA (tableE l i).2]) := by
  refine PureA.ofSub ?_
  refine calls_of_code (C := ⟨Tryz.prog, gl, 24, []⟩) (fn := Tryz.f56) rfl rfl rfl (by simp) (vc_sound _ _ _ _ ?_)
  have hlen := catLen_ok gl l
  by_cases h0 : i < 0
  · simp [Tryz.f56, catA, h0, tableE]
    exact fun _ => Sub.tup2 sub_noTb (Sub.refl _)
  · simp [Tryz.f56, h0, tableE]
    intro b
    refine hlen.use ?_
    obtain ⟨n, rfl⟩ : ∃ n : Nat, i = n := ⟨i.toNat, by omega⟩
    simp only [Int.toNat_natCast]
    cases hg : l[n]? with
    | none =>
      have hle : l.length ≤ n := List.getElem?_eq_none_iff.1 hg
      simp [catA, show (l.length : Int) ≤ n by omega]
      exact Sub.tup2 sub_noTb (Sub.refl _)
    | some t =>
      have hlt : n < l.length := (List.getElem?_eq_some_iff.1 hg).1
      have hgi : (tsA l)[n]'(by simpa using hlt) = tA t := by
        have : (tsA l)[n]? = some (tA t) := by simp [tsA, hg]
        exact (List.getElem?_eq_some_iff.1 this).2
      simp only [tA, strV] at hgi
      simp [catA, show ¬ (l.length : Int) ≤ n by omega, hgi, hlt]
      have how := own_ok gl t (hl t (List.mem_of_getElem? hg))
      simp only [tA, strV] at how
      refine how.use ?_
      simp
      exact Sub.tup2 (Sub.refl _) (Sub.refl _)

/-- A table and its place. -/
def findT (l : List Tb) (s : List UInt8) : Nat × Tb × Nat := match tbIdx l s 0 with | some n => (n, (l[n]?).getD noTb, 0) | none => (0, noTb, 30)
theorem find_ok (gl : Nat → AV) (l : List Tb) (s : List UInt8) (hl : ∀ t ∈ l, t.cols.length ≤ 2 ^ 40) : PureA Tryz.prog gl 46 [catA l, .s (strV s)] (.tup [.s (.int .i64 (findT l s).1), tA (findT l s).2.1, errA (findT l s).2.2]) := by
  refine PureA.ofSub ?_
  refine calls_of_code (C := ⟨Tryz.prog, gl, 29, []⟩) (fn := Tryz.f46) rfl rfl rfl (by simp) (vc_sound _ _ _ _ ?_)
  simp [Tryz.f46]
  intro b
  refine (catFind_ok gl l s).use ?_
  have hlt := tbIdx_lt s l 0
  unfold findE findT
  cases h : tbIdx l s 0 with
  | none =>
    simp
    exact Sub.tup3 (Sub.refl _) sub_noTb (Sub.refl _)
  | some n =>
    have hn := hlt n h
    obtain ⟨t, hg⟩ : ∃ t, l[n]? = some t := ⟨l[n]'(by omega), by simp⟩
    simp
    have ht : tableE l (n : Int) = (t, 0) := by simp only [tableE, Int.toNat_natCast, hg]; rw [if_neg (by omega)]
    have hT := catTable_ok gl l n hl
    rw [ht] at hT
    refine hT.use ?_
    simp [tA]
    intro b2
    refine W_steps [(0, false), (1, false), (2, false), (3, false), (4, true), (5, false)] hmix (by kernel_rfl) (by kernel_rfl) (by decide) ?_
    simp [hg]
    exact Sub.refl _
end Go.Proofs.YtjhnabdcmfjeoaaGreatDoor.Ab
/- The contract of store's write. Own work. -/
set_option linter.unusedSimpArgs false
set_option linter.unusedVariables false
namespace Go.Proofs.YtjhnabdcmfjeoaaGreatDoor.Ab
open Go

structure Wr where
  table : List UInt8
  gone : Bool
  row : List V
def wA (w : Wr) : AV := .agg [.s (strV w.table), .s (.bool w.gone), .lst 4 (vsA w.row) none]

/-- What a change is as bytes. -/
def wrB (l : List Tb) (w : Wr) : List UInt8 × Nat :=
  if (findT l w.table).2.2 ≠ 0 then ([], (findT l w.table).2.2) else
  if w.gone = true then (if (keyE (findT l w.table).2.1 w.row).2 ≠ 0 then ([], (keyE (findT l w.table).2.1 w.row).2) else
    (uintB (findT l w.table).1 ++ 1 :: (uintB (keyE (findT l w.table).2.1 w.row).1.length ++ (keyE (findT l w.table).2.1 w.row).1), 0)) else
  (if (rowE (findT l w.table).2.1 w.row).2 ≠ 0 then ([], (rowE (findT l w.table).2.1 w.row).2) else
    (uintB (findT l w.table).1 ++ 0 :: (uintB (rowE (findT l w.table).2.1 w.row).1.length ++ (rowE (findT l w.table).2.1 w.row).1), 0))
def wrR (b : List UInt8) (l : List Tb) (w : Wr) : List UInt8 × Nat := if (wrB l w).2 = 0 then (b ++ (wrB l w).1, 0) else ([], (wrB l w).2)

theorem encVs_len : ∀ (l : List V), (∀ v ∈ l, v.valid = 0) → (encVs l).length ≤ 4100 * l.length
  | [], _ => by simp [encVs]
  | v :: l, h => by
    have h1 := encV_len v (h v (by simp))
    have h2 := encVs_len l (fun x hx => h x (by simp [hx]))
    simp only [encVs, List.flatMap_cons, List.length_append, List.length_cons] at h2 ⊢
    omega
theorem firstBad_all : ∀ (l : List V), firstBad l = 0 → ∀ v ∈ l, v.valid = 0
  | [], _ => by simp
  | v :: l, h => by
    simp only [firstBad] at h
    split at h
    · rename_i hv
      intro x hx
      rcases List.mem_cons.1 hx with rfl | hx
      · exact hv
      · exact firstBad_all l h x hx
    · rename_i hv; exact absurd h hv
theorem ordE_len (l : List V) : (ordE l).1.length ≤ 4100 * 16 := by
  unfold ordE
  split
  · simp
  · rename_i h
    split
    · simp
    · have := encVs_len l (firstBad_all l (by simpa using h))
      simp only; omega
theorem keyE_len (t : Tb) (l : List V) : (keyE t l).1.length ≤ 4100 * 16 := by
  unfold keyE
  split
  · simp
  · split
    · simp
    · exact ordE_len l
theorem rowBs_len : ∀ (l : List V), (∀ v ∈ l, v.fits ∧ v.valid = 0) → (rowBs l).length ≤ 4200 * l.length
  | [], _ => by simp [rowBs]
  | v :: l, h => by
    have h1 := rowB_len v (h v (by simp)).1 (h v (by simp)).2
    have h2 := rowBs_len l (fun x hx => h x (by simp [hx]))
    simp only [rowBs, List.flatMap_cons, List.length_append, List.length_cons] at h2 ⊢
    omega
theorem rowE_len (t : Tb) (l : List V) (hf : ∀ v ∈ l, v.fits) : (rowE t l).1.length ≤ 4200 * l.length := by
  unfold rowE
  split
  · simp
  · rename_i h
    have hok : chkE t l = 0 := by simpa using h
    have hlen : l.length = t.cols.length := by
      by_cases h : l.length = t.cols.length
      · exact h
      · rw [chkE, if_pos h] at hok; cases hok
    rw [chkE, if_neg (by omega)] at hok
    have hv := chkR_all _ _ hlen.symm hok
    exact rowBs_len l fun v hm => ⟨hf v hm, hv v hm⟩

set_option maxRecDepth 20000
theorem write_ok (gl : Nat → AV) (b : List UInt8) (o : Option (Nat × Own)) (l : List Tb) (w : Wr) (hl : ∀ t ∈ l, t.cols.length ≤ 2 ^ 30) (hll : l.length ≤ 2 ^ 40) (hf : ∀ v ∈ w.row, v.fits) (hr : w.row.length ≤ 2 ^ 30) (hb : b.length ≤ 2 ^ 44) :
    PureA Tryz.prog gl 21 [.lst 1 (bytesA b) o, catA l, wA w] (.tup [.lst 1 (bytesA (wrR b l w).1) none, errA (wrR b l w).2]) := by
  refine PureA.ofSub ?_
  refine calls_of_code (C := ⟨Tryz.prog, gl, 61, []⟩) (fn := Tryz.f21) rfl rfl rfl (by simp) (vc_sound _ _ _ _ ?_)
  simp [Tryz.f21, wA]
  refine (find_ok gl l w.table (fun t ht => by have := hl t ht; omega)).use ?_
  have hlt := tbIdx_lt w.table l 0
  have hT : (findT l w.table).2.1.cols.length ≤ 2 ^ 30 ∧ (findT l w.table).1 ≤ l.length := by
    unfold findT
    cases h : tbIdx l w.table 0 with
    | none => simp [noTb]
    | some n =>
      have hn := hlt n h
      obtain ⟨t, hg⟩ : ∃ t, l[n]? = some t := ⟨l[n]'(by omega), by simp⟩
      simp only [hg, Option.getD_some]
      exact ⟨hl t (List.mem_of_getElem? hg), by omega⟩
  unfold wrR wrB
  generalize findT l w.table = x at hT ⊢
  obtain ⟨n, t, e⟩ := x
  simp only at hT ⊢
  by_cases he : e = 0
  · subst he
    simp [tA]
    intro b1
    refine (count_ok gl 27 b o n (by omega) (by omega)).own fun q => ?_
    have hn10 := uintB_len 9 n (by omega)
    cases hg : w.gone with
    | true =>
      simp [hg]
      have hk := keyof_ok gl t w.row none hf (by omega) (by omega)
      simp only [tA, strV] at hk
      refine hk.use ?_
      have hkl := keyE_len t w.row
      generalize keyE t w.row = y at hkl ⊢
      obtain ⟨k, ek⟩ := y
      simp only at hkl ⊢
      by_cases hek : ek = 0
      · subst hek
        simp
        refine ⟨by decide, by omega, by omega, fun q' => ?_⟩
        have hcat : bytesA (b ++ uintB n) ++ [AV.s (.int .u8 1)] = bytesA (b ++ uintB n ++ [1]) := by simp [bytesA, byteA]
        rw [hcat]
        refine (appendText_ok gl 44 (b ++ uintB n ++ [1]) _ k (by omega) (by simp; omega)).own fun q2 => ?_
        simp
        exact Sub.tup2 (Sub.drop _ _ _) (Sub.refl _)
      · simp [hek]
        exact Sub.tup2 (Sub.nil _) (Sub.refl _)
    | false =>
      simp [hg]
      have hk := rowEncode_ok gl t w.row none hf (by omega) (by omega)
      simp only [tA, strV] at hk
      refine hk.use ?_
      have hkl := rowE_len t w.row hf
      generalize rowE t w.row = y at hkl ⊢
      obtain ⟨k, ek⟩ := y
      simp only at hkl ⊢
      by_cases hek : ek = 0
      · subst hek
        simp
        refine W_steps [(0, false), (1, false), (3, false), (4, false), (2, true), (5, true), (6, false), (7, false)] hmix (by kernel_rfl) (by kernel_rfl) (by decide) ?_
        simp
        refine ⟨by decide, by omega, by omega, fun q' => ?_⟩
        have hcat : bytesA (b ++ uintB n) ++ [AV.s (.int .u8 0)] = bytesA (b ++ uintB n ++ [0]) := by simp [bytesA, byteA]
        rw [hcat]
        refine (appendText_ok gl 60 (b ++ uintB n ++ [0]) _ k (by omega) (by simp; omega)).own fun q2 => ?_
        simp
        exact Sub.tup2 (Sub.drop _ _ _) (Sub.refl _)
      · simp [hek]
        exact Sub.tup2 (Sub.nil _) (Sub.refl _)
  · simp [he, tA]
    exact fun _ => Sub.tup2 (Sub.nil _) (Sub.refl _)
end Go.Proofs.YtjhnabdcmfjeoaaGreatDoor.Ab
/- The contract of store's EncodeDone. Own work. -/
set_option linter.unusedSimpArgs false
set_option linter.unusedVariables false
namespace Go.Proofs.YtjhnabdcmfjeoaaGreatDoor.Ab
open Go

structure Dn where
  label : Int
  number : Int
  deps : List Int
  writes : List Wr
def wsA (l : List Wr) : List AV := l.map wA
@[simp] theorem wsA_len (l : List Wr) : (wsA l).length = l.length := by simp [wsA]
def dA (d : Dn) : AV := .agg [.s (.int .i64 d.label), .s (.int .i64 d.number), .lst 1 (intsA d.deps) none, .lst 3 (wsA d.writes) none]

def depsB (l : List Int) : List UInt8 := l.flatMap fun n => uintB n.toNat
/-- Changes behind bytes, or the first error. -/
def wrsR (l : List Tb) : List Wr → List UInt8 → List UInt8 × Nat
  | [], b => (b, 0)
  | w :: ws, b => if (wrB l w).2 = 0 then wrsR l ws (b ++ (wrB l w).1) else ([], (wrB l w).2)
def headB (d : Dn) : List UInt8 := 1 :: (uintB d.number.toNat ++ (uintB d.deps.length ++ (depsB d.deps ++ uintB d.writes.length)))
def encD (l : List Tb) (d : Dn) : List UInt8 × Nat :=
  if d.number < 1 ∨ 16 < d.deps.length then ([], 1) else if d.deps.any (fun n => decide (n < 0)) = true then ([], 1) else wrsR l d.writes (headB d)

def rsum : List Wr → Nat
  | [] => 0
  | w :: r => w.row.length + rsum r

/-- What fits. -/
structure Dn.fits (d : Dn) : Prop where
  n1 : d.number ≤ 9223372036854775807
  deps : ∀ n ∈ d.deps, n ≤ 9223372036854775807
  wlen : d.writes.length ≤ 2 ^ 20
  rows : ∀ w ∈ d.writes, w.row.length ≤ 2 ^ 20 ∧ ∀ v ∈ w.row, v.fits
  all : rsum d.writes ≤ 2 ^ 20

theorem wrB_len (l : List Tb) (w : Wr) (hf : ∀ v ∈ w.row, v.fits) (hr : w.row.length ≤ 2 ^ 20) (hll : l.length ≤ 2 ^ 40) : (wrB l w).1.length ≤ 70000 + 4200 * w.row.length := by
  have hk := keyE_len (findT l w.table).2.1 w.row
  have hR := rowE_len (findT l w.table).2.1 w.row hf
  have hlt := tbIdx_lt w.table l 0
  have hn : (findT l w.table).1 ≤ l.length := by
    unfold findT
    cases h : tbIdx l w.table 0 with
    | none => simp
    | some n => have := hlt n h; simp; omega
  have h1 := uintB_len 9 (findT l w.table).1 (by omega)
  have h2 := uintB_len 9 (keyE (findT l w.table).2.1 w.row).1.length (by omega)
  have h3 := uintB_len 9 (rowE (findT l w.table).2.1 w.row).1.length (by omega)
  unfold wrB
  split
  · simp
  · split
    · split
      · simp
      · simp; omega
    · split
      · simp
      · simp; omega

set_option maxRecDepth 20000
theorem encodeDone_ok (gl : Nat → AV) (l : List Tb) (d : Dn) (hl : ∀ t ∈ l, t.cols.length ≤ 2 ^ 30) (hll : l.length ≤ 2 ^ 40) (hf : d.fits) :
    PureA Tryz.prog gl 7 [catA l, dA d] (.tup [.lst 1 (bytesA (encD l d).1) none, errA (encD l d).2]) := by
  refine PureA.ofSub ?_
  refine calls_of_code (C := ⟨Tryz.prog, gl, 69, []⟩) (fn := Tryz.f7) rfl rfl rfl (by simp) (vc_sound _ _ _ _ ?_)
  unfold encD
  by_cases hbad : d.number < 1 ∨ 16 < d.deps.length
  · rw [if_pos hbad]
    rcases hbad with h | h
    · simp [Tryz.f7, dA, h]
      exact Sub.tup2 (Sub.nil _) (Sub.refl _)
    · by_cases h1 : d.number < 1
      · simp [Tryz.f7, dA, h1]
        exact Sub.tup2 (Sub.nil _) (Sub.refl _)
      · simp [Tryz.f7, dA, h1, show (16 : Int) < d.deps.length by omega]
        exact Sub.tup2 (Sub.nil _) (Sub.refl _)
  · rw [if_neg hbad]
    have h1 : ¬ d.number < 1 := fun h => hbad (.inl h)
    have h2 : ¬ (16 : Int) < d.deps.length := fun h => hbad (.inr (by omega))
    obtain ⟨num, hnum⟩ : ∃ n : Nat, d.number = n := ⟨d.number.toNat, by omega⟩
    have hnl := hf.n1
    have hu1 := uintB_len 9 num (by omega)
    have hu2 := uintB_len 9 d.deps.length (by omega)
    have hone : AV.lst 1 [AV.s (.int .u8 1)] none = AV.lst 1 (bytesA [1]) none := rfl
    generalize hR : (if d.deps.any (fun n => decide (n < 0)) = true then (([], 1) : List UInt8 × Nat) else wrsR l d.writes (headB d)) = R
    simp [Tryz.f7, dA, h1, h2]
    refine ⟨by decide, ?_⟩
    rw [hnum, hone]
    refine (count_ok gl 25 [1] none num (by omega) (by simp)).own fun q => ?_
    simp
    refine (count_ok gl 30 _ _ d.deps.length (by omega) (by simp; omega)).own fun q2 => ?_
    simp
    have hd16 : d.deps.length ≤ 16 := by omega
    refine W_loopS (fun k E H => ∃ (i : Nat) (xs : List UInt8) (o' : Option (Nat × Own)), k = d.deps.length - i ∧ i ≤ d.deps.length ∧ E 34 = .s (.int .i64 i) ∧ E 33 = .s (.int .i64 d.deps.length) ∧ E 32 = .lst 1 (intsA d.deps) none ∧ E 6 = .lst 1 (bytesA xs) o' ∧ E 0 = catA l ∧
      E 3 = .rp [.s (.int .i64 d.label), .s (.int .i64 d.number), .lst 1 (intsA d.deps) none, .lst 3 (wsA d.writes) none] ∧ H = [] ∧ xs = [1] ++ uintB num ++ uintB d.deps.length ++ depsB (d.deps.take i) ∧ xs.length ≤ 40 + 10 * i ∧ (d.deps.take i).any (fun n => decide (n < 0)) = false) d.deps.length ?_ ?_
    · exact ⟨[], by simp, 0, _, _, rfl, by omega, by simp, by simp, by simp, by simp; exact ⟨rfl, rfl⟩, by simp [argE], by simp [hnum], rfl, by simp [depsB], by simp; omega, by simp⟩
    · rintro k E H ⟨i, xs, o', rfl, hi, h34, h33, h32, h6, h0, h3, rfl, hx, hxl, hneg⟩
      refine vc_sound _ _ _ _ ?_
      cases hd : d.deps.drop i with
      | nil =>
        have : i = d.deps.length := by have := List.drop_eq_nil_iff.1 hd; omega
        subst this
        rw [List.take_length] at hx hneg
        have hu3 := uintB_len 9 d.writes.length (by have := hf.wlen; omega)
        have hwl := hf.wlen
        have hanyf : ¬ (d.deps.any (fun n => decide (n < 0)) = true) := by rw [hneg]; simp
        rw [if_neg hanyf] at hR
        subst hR
        simp [h34, h33, h32, h6, h0, h3]
        refine (count_ok gl 49 xs _ d.writes.length (by omega) (by omega)).own fun q3 => ?_
        have hhead : xs ++ uintB d.writes.length = headB d := by rw [hx]; simp [headB, hnum]
        simp [h34, h33, h32, h6, h0, h3]
        refine W_loopS (fun k E H => ∃ (i : Nat) (xs : List UInt8) (o' : Option (Nat × Own)), k = d.writes.length - i ∧ i ≤ d.writes.length ∧ E 53 = .s (.int .i64 i) ∧ E 52 = .s (.int .i64 d.writes.length) ∧ E 51 = .lst 3 (wsA d.writes) none ∧ E 6 = .lst 1 (bytesA xs) o' ∧ E 0 = catA l ∧ H = [] ∧
          xs.length + 70000 * (d.writes.length - i) + 4200 * rsum (d.writes.drop i) ≤ 300 + 70000 * d.writes.length + 4200 * rsum d.writes ∧ wrsR l (d.writes.drop i) xs = wrsR l d.writes (headB d)) d.writes.length ?_ ?_
        · refine ⟨[], by simp, 0, xs ++ uintB d.writes.length, some (49, q3), rfl, by omega, by simp, by simp, by simp, by simp, by simp [h0], rfl, by simp; omega, by rw [hhead]; simp⟩
        · rintro k E H ⟨i, xs, o', rfl, hi, h53, h52, h51, h6, h0, rfl, hxl, hw⟩
          refine vc_sound _ _ _ _ ?_
          cases hd : d.writes.drop i with
          | nil =>
            have : i = d.writes.length := by have := List.drop_eq_nil_iff.1 hd; omega
            subst this
            rw [hd] at hw
            simp only [wrsR] at hw
            simp [h53, h52, h51, h6, h0, ← hw]
            exact Sub.tup2 (Sub.drop _ _ _) (Sub.refl _)
          | cons w r =>
            have hlt : i < d.writes.length := by have := congrArg List.length hd; simp at this; omega
            have hgl : d.writes[i]? = some w := by rw [← List.head?_drop, hd]; rfl
            have hgi : (wsA d.writes)[i]'(by simpa using hlt) = wA w := by
              have : (wsA d.writes)[i]? = some (wA w) := by simp [wsA, hgl]
              exact (List.getElem?_eq_some_iff.1 this).2
            have hdr : d.writes.drop (i + 1) = r := by rw [← List.drop_drop, hd]; rfl
            have hmem : w ∈ d.writes := List.mem_of_getElem? hgl
            obtain ⟨hrl, hrf⟩ := hf.rows w hmem
            have e2 : IntKind.i64.wrap ((i : Int) + 1) = (i : Int) + 1 := wrap_i64_in _ (by omega) (by omega)
            have hall := hf.all
            have hwlen := hf.wlen
            have hrs : rsum (d.writes.drop i) = w.row.length + rsum (d.writes.drop (i + 1)) := by rw [hd, hdr]; rfl
            rw [hrs] at hxl
            rw [hd] at hw
            simp only [wrsR] at hw
            simp only [wA, strV] at hgi
            simp [h53, h52, h51, h6, h0, hgi, hlt]
            intro b1
            have hwr := write_ok gl xs o' l w hl hll hrf (by omega) (by omega)
            simp only [wA, strV] at hwr
            have hwl := wrB_len l w hrf hrl hll
            refine hwr.use ?_
            unfold wrR
            by_cases he : (wrB l w).2 = 0
            · rw [if_pos he] at hw
              simp [h53, h52, h51, h6, h0, he, e2]
              refine ⟨d.writes.length - (i + 1), by omega, [], by simp, i + 1, rfl, by omega, by omega, xs ++ (wrB l w).1, rfl, rfl, by rw [List.length_append]; omega, by rw [hdr]; exact hw⟩
            · rw [if_neg he] at hw
              simp [h53, h52, h51, h6, h0, he, ← hw]
              exact Sub.tup2 (Sub.nil _) (Sub.refl _)
      | cons n r =>
        have hlt : i < d.deps.length := by have := congrArg List.length hd; simp at this; omega
        have hgl : d.deps[i]? = some n := by rw [← List.head?_drop, hd]; rfl
        have hgi : (intsA d.deps)[i]'(by simpa using hlt) = .s (.int .i64 n) := by
          have : (intsA d.deps)[i]? = some (.s (.int .i64 n)) := by simp [intsA, hgl]
          exact (List.getElem?_eq_some_iff.1 this).2
        have hmem : n ∈ d.deps := List.mem_of_getElem? hgl
        have e2 : IntKind.i64.wrap ((i : Int) + 1) = (i : Int) + 1 := wrap_i64_in _ (by omega) (by omega)
        by_cases hn0 : n < 0
        · have hany : d.deps.any (fun n => decide (n < 0)) = true := List.any_eq_true.2 ⟨n, hmem, by simpa using hn0⟩
          rw [if_pos hany] at hR
          subst hR
          simp [h34, h33, h32, h6, h0, h3, hgi, hlt, hn0]
          exact Sub.tup2 (Sub.nil _) (Sub.refl _)
        · obtain ⟨m, rfl⟩ : ∃ m : Nat, n = m := ⟨n.toNat, by omega⟩
          have hmb := hf.deps _ hmem
          have hu := uintB_len 9 m (by omega)
          simp [h34, h33, h32, h6, h0, h3, hgi, hlt]
          refine ⟨fun h => by omega, (count_ok gl 43 xs o' m (by omega) (by omega)).own fun q3 => ?_⟩
          simp [h34, h33, h32, h6, h0, h3, e2]
          refine ⟨d.deps.length - (i + 1), by omega, [], by simp, i + 1, rfl, by omega, by omega, _, rfl, rfl, ?_, by simp; omega, ?_⟩
          · rw [hx, List.take_add_one, hgl]; simp [depsB]
          · intro x hxm
            rw [List.take_add_one, hgl] at hxm
            simp only [List.any_eq_false, decide_eq_true_eq] at hneg
            rcases List.mem_append.1 hxm with hxm | hxm
            · have := hneg x hxm; omega
            · simp at hxm; omega
end Go.Proofs.YtjhnabdcmfjeoaaGreatDoor.Ab
/- The contracts of store's reader: bytes, numbers, texts. Own work. -/
set_option linter.unusedSimpArgs false
set_option linter.unusedVariables false
namespace Go.Proofs.YtjhnabdcmfjeoaaGreatDoor.Ab
open Go

/-- A reader: its bytes, whether they are bad. -/
abbrev Rd := List UInt8 × Bool
def rdH (l b : Nat) (s : Rd) (o : Option (Nat × Own)) : Nat × Res := (l, .box b 80 [.lst 1 (bytesA s.1) o, .s (.bool s.2)])
/-- A value is handed back, the reader stands so. -/
def retRd (l b : Nat) (v : AV) (s : Rd) : AV → AHeap → Prop := fun av H => av = v ∧ ∃ o, H = [rdH l b s o]
/-- The call is made beside other things. -/
theorem CallsA.rd {P : Program} {gl : Nat → AV} {f : FuncId} {args : List AV} {l b : Nat} {v : AV} {s s' : Rd} {o : Option (Nat × Own)} {H : AHeap} {R : AV → AHeap → Prop} (h : CallsA P gl f args [rdH l b s o] (retRd l b v s')) (hR : ∀ o', R v (rdH l b s' o' :: H)) :
    CallsA P gl f args (rdH l b s o :: H) R :=
  (h.frame (HF := rdH l b s o :: H) (F := H) (List.Perm.refl _)).mono fun av H' ⟨H1, e, e1, o', e2⟩ => by subst e e1 e2; exact hR o'

def rdUint (s : Rd) (most : Int) : Rd × Nat := if s.2 = true ∨ (uintD s.1).2.2 ≠ 0 ∨ most < (uintD s.1).1 then ((s.1, true), 0) else ((s.1.drop (uintD s.1).2.1, false), (uintD s.1).1)

set_option maxRecDepth 20000
theorem rdUint_ok (gl : Nat → AV) (l b : Nat) (s : Rd) (o : Option (Nat × Own)) (most : Int) (h0 : 0 ≤ most) (h1 : most ≤ 9223372036854775807) (hb : s.1.length ≤ 2 ^ 46) :
    CallsA Tryz.prog gl 29 [.ptr l b 0, .s (.int .i64 most)] [rdH l b s o] (retRd l b (.s (.int .i64 (rdUint s most).2)) (rdUint s most).1) := by
  refine calls_of_code (C := ⟨Tryz.prog, gl, 45, []⟩) (fn := Tryz.f29) rfl rfl rfl (by simp) (vc_sound _ _ _ _ ?_)
  obtain ⟨bs, bad⟩ := s
  simp only at hb
  simp [Tryz.f29, rdH]
  refine (uint_ok gl bs o hb).use ?_
  have hlt := uintD_lt bs
  have hok := uintD_ok bs
  unfold rdUint
  simp only
  generalize uintD bs = x at hlt hok ⊢
  obtain ⟨n, k, e⟩ := x
  simp only at hlt hok ⊢
  have w1 : IntKind.u64.wrap most = most := wrap_u64_in _ (by omega) (by omega)
  cases bad with
  | true => simp [uintA, retRd, rdH]
  | false =>
    by_cases he : e = 0
    · subst he
      obtain ⟨k1, k2, k3⟩ := hok rfl
      by_cases hm : most < (n : Int)
      · simp [uintA, w1, hm, retRd, rdH]
      · have w2 : IntKind.i64.wrap (n : Int) = n := wrap_i64_in _ (by omega) (by omega)
        simp [uintA, w1, w2, hm, retRd, rdH]
        exact k2
    · simp [uintA, he, retRd, rdH]

def rdMany (s : Rd) : Rd × Nat := rdUint s s.1.length
theorem rdMany_ok (gl : Nat → AV) (l b : Nat) (s : Rd) (o : Option (Nat × Own)) (hb : s.1.length ≤ 2 ^ 46) :
    CallsA Tryz.prog gl 30 [.ptr l b 0] [rdH l b s o] (retRd l b (.s (.int .i64 (rdMany s).2)) (rdMany s).1) := by
  refine calls_of_code (C := ⟨Tryz.prog, gl, 10, []⟩) (fn := Tryz.f30) rfl rfl rfl (by simp) (vc_sound _ _ _ _ ?_)
  simp [Tryz.f30, rdH]
  refine CallsA.rd (s := s) (s' := (rdUint s s.1.length).1) (o := o) (H := []) (rdUint_ok gl l b s o s.1.length (by omega) (by omega) hb) fun o' => ?_
  simp [retRd, rdH, rdMany]

theorem rdDone_ok (gl : Nat → AV) (l b : Nat) (s : Rd) (o : Option (Nat × Own)) :
    CallsA Tryz.prog gl 32 [.ptr l b 0] [rdH l b s o] (retRd l b (.s (.bool (!s.2 && decide (s.1 = [])))) s) := by
  refine calls_of_code (C := ⟨Tryz.prog, gl, 16, []⟩) (fn := Tryz.f32) rfl rfl rfl (by simp) (vc_sound _ _ _ _ ?_)
  obtain ⟨bs, bad⟩ := s
  simp [Tryz.f32, rdH]
  cases bad with
  | true => simp [retRd, rdH]
  | false => simp [retRd, rdH]

def rdByte (s : Rd) (most : Nat) : Rd × Nat := match s with
  | (c :: r, false) => if most < c.toNat then ((c :: r, true), 0) else ((r, false), c.toNat)
  | (bs, _) => ((bs, true), 0)
theorem rdByte_ok (gl : Nat → AV) (l b : Nat) (s : Rd) (o : Option (Nat × Own)) (most : Nat) :
    CallsA Tryz.prog gl 28 [.ptr l b 0, .s (.int .u8 most)] [rdH l b s o] (retRd l b (.s (.int .u8 (rdByte s most).2)) (rdByte s most).1) := by
  refine calls_of_code (C := ⟨Tryz.prog, gl, 46, []⟩) (fn := Tryz.f28) rfl rfl rfl (by simp) (vc_sound _ _ _ _ ?_)
  obtain ⟨bs, bad⟩ := s
  cases bad with
  | true => simp [Tryz.f28, rdH, retRd, rdByte]
  | false =>
    cases bs with
    | nil => simp [Tryz.f28, rdH, retRd, rdByte]
    | cons c r =>
      by_cases hm : most < c.toNat
      · simp [Tryz.f28, rdH, retRd, rdByte, hm, bytesA_cons, show ¬ ((r.length : Int) + 1 = 0) by omega]
      · simp [Tryz.f28, rdH, retRd, rdByte, hm, bytesA_cons, show ¬ ((r.length : Int) + 1 = 0) by omega]
        omega
def rdText (s : Rd) : Rd × List UInt8 := if s.2 = true ∨ (textD s.1 s.1.length).2.2 ≠ 0 then ((s.1, true), []) else ((s.1.drop (textD s.1 s.1.length).2.1, false), (textD s.1 s.1.length).1)
theorem textD_le (b : List UInt8) (m : Int) (h : (textD b m).2.2 = 0) : (textD b m).2.1 ≤ b.length := by
  have hok := uintD_ok b
  simp only [textD] at h ⊢
  split at h
  · cases h
  · split at h
    · rename_i h1; exact absurd h h1
    · split at h
      · cases h
      · split at h
        · cases h
        · rename_i h0 h1 h2 h3
          rw [if_neg h0, if_neg h1, if_neg h2, if_neg h3]
          have := hok (by simpa using h1)
          simp only; omega
theorem rdText_ok (gl : Nat → AV) (l b : Nat) (s : Rd) (o : Option (Nat × Own)) (hb : s.1.length ≤ 2 ^ 46) :
    CallsA Tryz.prog gl 66 [.ptr l b 0] [rdH l b s o] (retRd l b (.s (strV (rdText s).2)) (rdText s).1) := by
  refine calls_of_code (C := ⟨Tryz.prog, gl, 41, []⟩) (fn := Tryz.f66) rfl rfl rfl (by simp) (vc_sound _ _ _ _ ?_)
  obtain ⟨bs, bad⟩ := s
  simp only at hb
  simp [Tryz.f66, rdH]
  refine W_draw (.val 0 <| .val 1 <| .val 2 <| .val 3 <| .val 4 <| .val 5 <| .val 6 <| .val 7 <| .val 8 <| .one 9 [7] <| .val 10 <| .val 11 <| .val 12 <| .val 13 <| .val 14 <| .val 15 <| .val 16 .done) hmix (by kernel_rfl) (by kernel_rfl) ?_
  simp [argE]
  refine (text_ok gl bs o bs.length (by omega) (by omega) hb).use ?_
  have hle := textD_le bs bs.length
  unfold rdText
  simp only
  generalize textD bs bs.length = x at hle ⊢
  obtain ⟨t, k, e⟩ := x
  simp only at hle ⊢
  cases bad with
  | true => simp [textDA, retRd, rdH, pureG, pureO, opVal]
  | false =>
    by_cases he : e = 0
    · have := hle he
      simp [textDA, he, retRd, rdH, pureG, pureO, opVal]
      exact this
    · simp [textDA, he, retRd, rdH, pureG, pureO, opVal]
end Go.Proofs.YtjhnabdcmfjeoaaGreatDoor.Ab
/- The contracts of store's reader: values, a row. Own work. -/
set_option linter.unusedSimpArgs false
set_option linter.unusedVariables false
namespace Go.Proofs.YtjhnabdcmfjeoaaGreatDoor.Ab
open Go

theorem textD_len (b : List UInt8) (m : Int) : (textD b m).1.length ≤ b.length := by
  unfold textD
  split
  · simp
  · split
    · simp
    · split
      · simp
      · split
        · simp
        · simp; omega
theorem rdText_len (s : Rd) : (rdText s).2.length ≤ s.1.length := by
  unfold rdText
  split
  · simp
  · exact textD_len _ _

def rdValues (s : Rd) : Rd × List V := (((rdText s).1.1, (rdText s).1.2 || decide ((ordD (rdText s).2).2 ≠ 0)), (ordD (rdText s).2).1)
def rdRow (s : Rd) (t : Tb) : Rd × List V := (((rdText s).1.1, (rdText s).1.2 || decide ((rowD t (rdText s).2).2 ≠ 0)), (rowD t (rdText s).2).1)

set_option maxRecDepth 20000
theorem rdValues_ok (gl : Nat → AV) (m : Int) (hm : GInt gl 1 m) (l b : Nat) (s : Rd) (o : Option (Nat × Own)) (hb : s.1.length < 4294967280) :
    CallsA Tryz.prog gl 58 [.ptr l b 0] [rdH l b s o] (retRd l b (.lst 4 (vsA (rdValues s).2) none) (rdValues s).1) := by
  refine calls_of_code (C := ⟨Tryz.prog, gl, 23, []⟩) (fn := Tryz.f58) rfl rfl rfl (by simp) (vc_sound _ _ _ _ ?_)
  have hlen := rdText_len s
  simp [Tryz.f58]
  refine CallsA.rd (H := []) (rdText_ok gl l b s o (by omega)) fun o' => ?_
  unfold rdValues
  generalize rdText s = x at hlen ⊢
  obtain ⟨⟨bs, bad⟩, txt⟩ := x
  simp only at hlen ⊢
  simp [rdH]
  refine (decode_ok gl m hm txt (by omega)).use ?_
  cases bad with
  | true => simp [retRd, rdH]
  | false => by_cases he : (ordD txt).2 = 0 <;> simp [he, retRd, rdH]

theorem rdRow_ok (gl : Nat → AV) (l b : Nat) (s : Rd) (t : Tb) (o : Option (Nat × Own)) (hb : s.1.length ≤ 2 ^ 40) (hc : t.cols.length ≤ 2 ^ 30) :
    CallsA Tryz.prog gl 57 [.ptr l b 0, tA t] [rdH l b s o] (retRd l b (.lst 4 (vsA (rdRow s t).2) none) (rdRow s t).1) := by
  refine calls_of_code (C := ⟨Tryz.prog, gl, 27, []⟩) (fn := Tryz.f57) rfl rfl rfl (by simp) (vc_sound _ _ _ _ ?_)
  have hlen := rdText_len s
  simp [Tryz.f57, tA]
  refine W_draw (.val 0 <| .val 1 <| .one 2 [0] <| .val 3 <| .one 4 [] <| .val 5 <| .val 6 <| .val 7 <| .val 8 <| .val 9 .done) hmix (by kernel_rfl) (by kernel_rfl) ?_
  simp [argE]
  refine CallsA.rd (H := []) (rdText_ok gl l b s o (by omega)) fun o' => ?_
  unfold rdRow
  generalize rdText s = x at hlen ⊢
  obtain ⟨⟨bs, bad⟩, txt⟩ := x
  simp only at hlen ⊢
  simp [rdH, pureG, pureO, opVal]
  refine ⟨by rw [size_str]; omega, ?_⟩
  have hd := rowDecode_ok gl t txt none (by omega) hc
  simp only [tA, strV] at hd
  refine hd.use ?_
  cases bad with
  | true => simp [retRd, rdH, pureG, pureO, opVal]
  | false => by_cases he : (rowD t txt).2 = 0 <;> simp [he, retRd, rdH, pureG, pureO, opVal]
end Go.Proofs.YtjhnabdcmfjeoaaGreatDoor.Ab
/- The contract of store's reader: a change. Own work. -/
set_option linter.unusedSimpArgs false
set_option linter.unusedVariables false
namespace Go.Proofs.YtjhnabdcmfjeoaaGreatDoor.Ab
open Go

/-- A pointer's label, and a box's, say nothing of memory. -/
theorem Rep.ptrLabel {im : Im} {l l' b off : Nat} {v : Value} (h : Rep im (.ptr l b off) v) : Rep im (.ptr l' b off) v := by cases h; exact .ptr l' b off
theorem CallsA.ptrLabel {P : Program} {gl : Nat → AV} {f : FuncId} {args : List AV} {l l' b : Nat} {v : AV} {s s' : Rd} {o : Option (Nat × Own)} (h : CallsA P gl f (.ptr l b 0 :: args) [rdH l b s o] (retRd l b v s')) :
    CallsA P gl f (.ptr l' b 0 :: args) [rdH l' b s o] (retRd l' b v s') := by
  intro im w vs h1 h2 h3
  have h1' : RepL im (.ptr l b 0 :: args) vs := ⟨h1.1, fun i c u hi hu => by
    cases i with
    | zero => simp at hi; subst hi; exact (h1.2 0 (.ptr l' b 0) u rfl hu).ptrLabel
    | succ i => exact h1.2 (i + 1) c u (by simpa using hi) hu⟩
  have h2' : Ok (here im w [rdH l b s o]) im w [rdH l b s o] := Ok.refl (B := here im w [rdH l' b s o]) (h2.relabel)
  refine (h im w vs h1' h2' h3).mono ?_
  rintro e w' ⟨u, im', av, H', he, hok, hr, rfl, o', rfl⟩
  refine ⟨u, im', av, [rdH l' b s' o'], he, ?_, hr, rfl, o', rfl⟩
  exact (hok.relabel (l' := l'))

/-- What is handed back reads as v too; the reader stands so, whatever else is owned. -/
def RetRd (l b : Nat) (v : AV) (s : Rd) : AV → AHeap → Prop := fun av H => Sub av v ∧ ∃ o, List.Sublist [rdH l b s o] H
theorem CallsA.ofRd {P : Program} {gl : Nat → AV} {f : FuncId} {args : List AV} {l b : Nat} {v : AV} {s : Rd} {H : AHeap} (h : CallsA P gl f args H (RetRd l b v s)) : CallsA P gl f args H (retRd l b v s) := by
  intro im w vs h1 h2 h3
  refine (h im w vs h1 h2 h3).mono ?_
  rintro e w' ⟨u, im', av, H', he, hok, hr, hv, o', hs⟩
  exact ⟨u, im', v, _, he, hok.sub hs, hv _ _ hr, rfl, o', rfl⟩

/-- The call is made behind other things. -/
theorem CallsA.rdP {P : Program} {gl : Nat → AV} {f : FuncId} {args : List AV} {l b : Nat} {v : AV} {s s' : Rd} {o : Option (Nat × Own)} {HF F : AHeap} {R : AV → AHeap → Prop} (h : CallsA P gl f args [rdH l b s o] (retRd l b v s')) (hp : HF.Perm (rdH l b s o :: F))
    (hR : ∀ o', R v (rdH l b s' o' :: F)) : CallsA P gl f args HF R :=
  (h.frame (HF := HF) (F := F) hp).mono fun av H' ⟨H1, e, e1, o', e2⟩ => by subst e e1 e2; exact hR o'

theorem ordR_fits : ∀ (k : Nat) (s : List UInt8) (acc : List V), s.length ≤ 2 ^ 40 → (∀ v ∈ acc, v.fits) → acc.length ≤ 16 → (∀ v ∈ (ordR k s acc).1, v.fits) ∧ (ordR k s acc).1.length ≤ 16
  | 0, _, _, _, _, _ => by simp [ordR]
  | _ + 1, [], acc, _, ha, hl => by simp [ordR]; exact ⟨ha, hl⟩
  | k + 1, c :: s, acc, hs, ha, hl => by
    have h1 := oneD_fits (c :: s) hs
    have h2 := oneD_len (c :: s)
    simp only [ordR]
    split
    · simp
    · rename_i h
      have hne : acc.length ≠ 16 := fun e => h (.inr (.inr e))
      refine ordR_fits k _ _ (by omega) ?_ (by simp; omega)
      intro v hv
      rcases List.mem_append.1 hv with hv | hv
      · exact ha v hv
      · simp at hv; subst hv; exact h1
theorem ordD_fits (s : List UInt8) (hs : s.length ≤ 2 ^ 40) : (∀ v ∈ (ordD s).1, v.fits) ∧ (ordD s).1.length ≤ 16 := ordR_fits 17 s [] hs (by simp) (by simp)

def noWr : Wr := ⟨[], false, []⟩
theorem sub_noWr : Sub (.agg [.s (.string ⟨#[]⟩), .s (.bool false), .s (.slice none 0 0)]) (wA noWr) := Sub.agg rfl fun i a b ha hb => by
  match i with
  | 0 => simp [noWr] at ha hb; subst ha hb; exact Sub.refl _
  | 1 => simp [noWr] at ha hb; subst ha hb; exact Sub.refl _
  | 2 => simp [noWr, vsA] at ha hb; subst ha hb; exact Sub.nil _
  | i + 3 => simp at ha
def rdWrite (s : Rd) (ts : List Tb) : Rd × Wr :=
  if (tableE ts (rdUint s 32).2).2 ≠ 0 then (((rdUint s 32).1.1, true), noWr) else
  if (rdByte (rdUint s 32).1 1).2 = 1 then
    (if (keyE (tableE ts (rdUint s 32).2).1 (rdValues (rdByte (rdUint s 32).1 1).1).2).2 ≠ 0 then (((rdValues (rdByte (rdUint s 32).1 1).1).1.1, true), ⟨(tableE ts (rdUint s 32).2).1.name, true, (rdValues (rdByte (rdUint s 32).1 1).1).2⟩)
      else ((rdValues (rdByte (rdUint s 32).1 1).1).1, ⟨(tableE ts (rdUint s 32).2).1.name, true, (rdValues (rdByte (rdUint s 32).1 1).1).2⟩))
  else ((rdRow (rdByte (rdUint s 32).1 1).1 (tableE ts (rdUint s 32).2).1).1, ⟨(tableE ts (rdUint s 32).2).1.name, false, (rdRow (rdByte (rdUint s 32).1 1).1 (tableE ts (rdUint s 32).2).1).2⟩)

theorem rdUint_len (s : Rd) (m : Int) : (rdUint s m).1.1.length ≤ s.1.length := by
  unfold rdUint; split <;> simp
theorem rdByte_len (s : Rd) (m : Nat) : (rdByte s m).1.1.length ≤ s.1.length := by
  obtain ⟨bs, bad⟩ := s
  unfold rdByte
  split
  · rename_i h; cases h
    split <;> simp
  · rename_i h; cases h; simp

set_option maxRecDepth 20000
theorem rdWrite_ok (gl : Nat → AV) (m : Int) (hm : GInt gl 1 m) (l b : Nat) (s : Rd) (ts : List Tb) (o : Option (Nat × Own)) (hb : s.1.length < 4294967280) (hts : ∀ t ∈ ts, t.cols.length ≤ 2 ^ 30) (g4 : ¬ 4 = l) (g5 : ¬ 5 = l) (g7 : ¬ 7 = l) :
    CallsA Tryz.prog gl 31 [.ptr l b 0, catA ts] [rdH l b s o] (retRd l b (wA (rdWrite s ts).2) (rdWrite s ts).1) := by
  refine CallsA.ofRd ?_
  refine calls_of_code (C := ⟨Tryz.prog, gl, 53, []⟩) (fn := Tryz.f31) rfl rfl rfl (by simp) (vc_sound _ _ _ _ ?_)
  have f4 : ¬ l = 4 := fun e => g4 e.symm
  have f5 : ¬ l = 5 := fun e => g5 e.symm
  have f7 : ¬ l = 7 := fun e => g7 e.symm
  have hul := rdUint_len s 32
  simp [Tryz.f31, rdH, f4, f5, f7, g4, g5, g7]
  intro b1
  refine (rdUint_ok gl l b s o 32 (by omega) (by omega) (by omega)).rdP (List.Perm.swap _ _ _) fun o1 => ?_
  have hbl := rdByte_len (rdUint s 32).1 1
  unfold rdWrite
  generalize rdUint s 32 = x at hul hbl ⊢
  obtain ⟨⟨bs, bad⟩, n⟩ := x
  simp only at hul hbl ⊢
  simp [rdH, f4, f5, f7, g4, g5, g7]
  refine (catTable_ok gl ts n (fun t ht => by have := hts t ht; omega)).use ?_
  have htb : (tableE ts (n : Int)).1.cols.length ≤ 2 ^ 30 := by
    unfold tableE
    split
    · simp [noTb]
    · split
      · rename_i t ht; exact hts t (List.mem_of_getElem? ht)
      · simp [noTb]
  generalize tableE ts (n : Int) = y at htb ⊢
  obtain ⟨t, e⟩ := y
  simp only at htb ⊢
  by_cases he : e = 0
  · subst he
    simp [tA, rdH, f4, f5, f7, g4, g5, g7]
    intro b2
    refine W_draw (.val 0 <| .val 1 <| .val 2 <| .two 3 [1] (.val 4 <| .val 5 <| .one 6 [1] <| .one 7 [] .done) 6 [1] (.one 3 [1] <| .val 4 <| .val 5 <| .one 7 [] .done)) hmix (by kernel_rfl) (by kernel_rfl) ?_
    simp [rdH, f4, f5, f7, g4, g5, g7]
    have hvl : ∀ z : Rd, z.1.length ≤ bs.length → z.1.length < 4294967280 := fun z hz => by omega
    refine ⟨?_, fun b3 => ?_⟩
    · refine (rdByte_ok gl l b (bs, bad) o1 1).rdP (List.Perm.swap _ _ _) fun o2 => ?_
      generalize rdByte (bs, bad) 1 = z at hbl ⊢
      obtain ⟨⟨bs2, bad2⟩, c⟩ := z
      simp only at hbl ⊢
      by_cases hc : c = 1
      · subst hc
        simp [rdH, f4, f5, f7, g4, g5, g7, pureG, pureO, opVal]
        refine fun b4 => (rdValues_ok gl m hm l b (bs2, bad2) o2 (by simp only; omega)).rdP (List.Perm.swap _ _ _) fun o3 => ?_
        have hvf : (∀ v ∈ (rdValues (bs2, bad2)).2, v.fits) ∧ (rdValues (bs2, bad2)).2.length ≤ 16 := ordD_fits _ (by have := rdText_len (bs2, bad2); simp only at this; omega)
        generalize rdValues (bs2, bad2) = y at hvf ⊢
        obtain ⟨⟨bs3, bad3⟩, row⟩ := y
        simp only at hvf ⊢
        simp [rdH, f4, f5, f7, g4, g5, g7]
        refine (keyof_ok gl t row none hvf.1 (by omega) (by omega)).use ?_
        by_cases hk : (keyE t row).2 = 0
        · simp [rdH, f4, f5, f7, g4, g5, g7, hk]
          exact ⟨Sub.refl _, o3, by simp [rdH]⟩
        · simp [rdH, f4, f5, f7, g4, g5, g7, hk]
          exact ⟨Sub.refl _, o3, by simp [rdH]⟩
      · have hcI : ¬ (c : Int) = 1 := by omega
        simp [rdH, f4, f5, f7, g4, g5, g7, pureG, pureO, opVal, hc, hcI]
        refine fun b4 => (rdRow_ok gl l b (bs2, bad2) t o2 (by simp only; omega) htb).rdP (List.Perm.swap _ _ _) fun o3 => ?_
        simp [rdH, f4, f5, f7, g4, g5, g7]
        exact ⟨Sub.refl _, o3, by simp [rdH]⟩
    · refine ⟨by simp [pureG, pureO, opVal, rdH, f4, f5, f7, g4, g5, g7], ?_⟩
      refine (rdByte_ok gl l b (bs, bad) o1 1).rdP (List.perm_middle (l₁ := [(7, _), (5, _)]) (l₂ := [(4, _)])) fun o2 => ?_
      generalize rdByte (bs, bad) 1 = z at hbl ⊢
      obtain ⟨⟨bs2, bad2⟩, c⟩ := z
      simp only at hbl ⊢
      by_cases hc : c = 1
      · subst hc
        simp [rdH, f4, f5, f7, g4, g5, g7, pureG, pureO, opVal]
        refine (rdValues_ok gl m hm l b (bs2, bad2) o2 (by simp only; omega)).rdP (List.perm_middle (l₁ := [(7, _)]) (l₂ := [(5, _), (4, _)])) fun o3 => ?_
        have hvf : (∀ v ∈ (rdValues (bs2, bad2)).2, v.fits) ∧ (rdValues (bs2, bad2)).2.length ≤ 16 := ordD_fits _ (by have := rdText_len (bs2, bad2); simp only at this; omega)
        generalize rdValues (bs2, bad2) = y at hvf ⊢
        obtain ⟨⟨bs3, bad3⟩, row⟩ := y
        simp only at hvf ⊢
        simp [rdH, f4, f5, f7, g4, g5, g7]
        refine (keyof_ok gl t row none hvf.1 (by omega) (by omega)).use ?_
        by_cases hk : (keyE t row).2 = 0
        · simp [rdH, f4, f5, f7, g4, g5, g7, hk]
          exact ⟨Sub.refl _, o3, by simp [rdH]⟩
        · simp [rdH, f4, f5, f7, g4, g5, g7, hk]
          exact ⟨Sub.refl _, o3, by simp [rdH]⟩
      · have hcI : ¬ (c : Int) = 1 := by omega
        simp [rdH, f4, f5, f7, g4, g5, g7, pureG, pureO, opVal, hc, hcI]
        refine (rdRow_ok gl l b (bs2, bad2) t o2 (by simp only; omega) htb).rdP (List.perm_middle (l₁ := [(7, _)]) (l₂ := [(5, _), (4, _)])) fun o3 => ?_
        simp [rdH, f4, f5, f7, g4, g5, g7]
        exact ⟨Sub.refl _, o3, by simp [rdH]⟩
  · simp [he, tA, rdH, f4, f5, f7, g4, g5, g7]
    exact fun b4 => ⟨sub_noWr, o1, by simp [rdH]⟩
end Go.Proofs.YtjhnabdcmfjeoaaGreatDoor.Ab
