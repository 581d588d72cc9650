/- append on abstract values. Own work; a plain theory over any program. -/
import Derived.Test.YtjhnabdcmfjeoaaGreatDoorYA
import Derived.Deep.AppendSrc
import Derived.Maps.OwnOps
import Derived.Carry
import Derived.MapKept
import Derived.Laws.RangeString
import Derived.Laws.MakeOwn
set_option linter.unusedVariables false
set_option linter.unusedSimpArgs false
namespace Go.Proofs.YtjhnabdcmfjeoaaGreatDoor.Ab
open Go

def flat (es : List AV) : List AV := es.flatMap AV.cells

theorem flat_len {sz : Nat} : ∀ {es : List AV}, (∀ e ∈ es, e.cells.length = sz) → (flat es).length = es.length * sz
  | [], _ => by simp [flat]
  | e :: es, h => by
    have ih := flat_len (es := es) fun x hx => h x (by simp [hx])
    have h0 := h e (by simp)
    simp only [flat, List.flatMap_cons, List.length_append, List.length_cons] at ih ⊢
    rw [ih, h0, Nat.add_mul]; omega

theorem flat_get {sz : Nat} : ∀ {es : List AV}, (∀ e ∈ es, e.cells.length = sz) → ∀ {i j : Nat} {e c : AV}, es[i]? = some e → e.cells[j]? = some c → (flat es)[i * sz + j]? = some c
  | [], _, i, j, e, c, h, _ => by simp at h
  | x :: es, hz, i, j, e, c, h, hc => by
    have h0 := hz x (by simp)
    cases i with
    | zero =>
      simp at h; subst h
      have : j < x.cells.length := (List.getElem?_eq_some_iff.1 hc).1
      simp only [flat, List.flatMap_cons, Nat.zero_mul, Nat.zero_add]
      rw [List.getElem?_append_left this]; exact hc
    | succ i =>
      have ih := flat_get (es := es) (fun x hx => hz x (by simp [hx])) (i := i) (j := j) (by simpa using h) hc
      simp only [flat, List.flatMap_cons] at ih ⊢
      rw [List.getElem?_append_right (by rw [h0, Nat.add_mul]; omega), h0]
      rw [← ih]; congr 1
      rw [Nat.add_mul]; omega

theorem get_flat {sz : Nat} : ∀ {es : List AV}, (∀ e ∈ es, e.cells.length = sz) → ∀ {k : Nat} {c : AV}, (flat es)[k]? = some c → ∃ i j e, k = i * sz + j ∧ es[i]? = some e ∧ e.cells[j]? = some c
  | [], _, k, c, h => by simp [flat] at h
  | x :: es, hz, k, c, h => by
    have h0 := hz x (by simp)
    simp only [flat, List.flatMap_cons] at h
    by_cases hk : k < x.cells.length
    · rw [List.getElem?_append_left hk] at h
      exact ⟨0, k, x, by simp, by simp, h⟩
    · rw [List.getElem?_append_right (by omega)] at h
      obtain ⟨i, j, e, h1, h2, h3⟩ := get_flat (es := es) (fun x hx => hz x (by simp [hx])) h
      exact ⟨i + 1, j, e, by rw [Nat.add_mul]; omega, by simpa using h2, h3⟩

/-- A list's cells lie, protected, from an address on. -/
theorem Rep.ofFlat {im : Im} {sz : Nat} {es : List AV} {o : Option (Nat × Own)} {b off cap : Nat} (ho : ∀ l q, o = some (l, q) → q = .tip b cap ∧ off = 0) (hc : es.length ≤ cap) (hz : ∀ e ∈ es, e.cells.length = sz)
    (f : Nat → Value) (h : ∀ (k : Nat) (c : AV), (flat es)[k]? = some c → im b (off + k) = some (f k) ∧ Rep im c (f k)) : Rep im (.lst sz es o) (.slice (some ⟨b, off, none⟩) es.length cap) :=
  .lst sz es o b off cap f ho hc hz (fun i j e c he hcc => (h _ c (flat_get hz he hcc)).1) (fun i j e c he hcc => (h _ c (flat_get hz he hcc)).2)

def ext (im : Im) (b lo : Nat) (vs : List Value) : Im := ⟨fun k o => if k = b ∧ lo ≤ o ∧ o < lo + vs.length then vs[o - lo]? else im k o, im.m⟩

theorem ext_le {im : Im} {b lo : Nat} {vs : List Value} (h : ∀ o, lo ≤ o → im b o = none) : Le im (ext im b lo vs) := by
  refine ⟨fun k o v hv => ?_, fun _ _ h => h⟩
  simp only [ext]
  split
  · rename_i hc
    obtain ⟨rfl, h1, h2⟩ := hc
    rw [h o h1] at hv; cases hv
  · exact hv

theorem ext_at {im : Im} {b lo : Nat} {vs : List Value} {k : Nat} {v : Value} (h : vs[k]? = some v) : ext im b lo vs b (lo + k) = some v := by
  have := (List.getElem?_eq_some_iff.1 h).1
  show (if b = b ∧ lo ≤ lo + k ∧ lo + k < lo + vs.length then vs[lo + k - lo]? else im b (lo + k)) = some v
  rw [if_pos ⟨rfl, by omega, by omega⟩, ← h]
  congr 1; omega

theorem ext_out {im : Im} {b lo : Nat} {vs : List Value} {k o : Nat} (h : ¬ (k = b ∧ lo ≤ o ∧ o < lo + vs.length)) : ext im b lo vs k o = im k o := by
  show (if k = b ∧ lo ≤ o ∧ o < lo + vs.length then vs[o - lo]? else im k o) = im k o
  rw [if_neg h]

section
variable {P : Program} {im : Im} {w : World}

/-- What an append is handed beside the list. -/
structure SrcA (P : Program) (im : Im) (w : World) (sz : Nat) (tx : TypeId) (x : Value) (ys : List AV) (news : List Value) : Prop where
  src : Src P sz tx x ys.length news w
  sizes : ∀ e ∈ ys, e.cells.length = sz
  reps : ∀ (k : Nat) (c : AV) (u : Value), (flat ys)[k]? = some c → news[k]? = some u → Rep im c u

def srcOf (sz : Nat) : AV → Option (List AV)
  | .lst sz' ys _ => if sz' = sz then some ys else none
  | .s (.slice none 0 0) => some []
  | .s (.string s) => if sz = 1 then some (bytesA s.data.toList) else none
  | _ => none

theorem flat_bytes (l : List UInt8) : flat (bytesA l) = bytesA l := by
  induction l with
  | nil => rfl
  | cons b l ih => simp only [flat, bytesA, List.map_cons, List.flatMap_cons] at ih ⊢; rw [ih]; rfl

theorem srcOf_sound {sz : Nat} {tx : TypeId} {y : AV} {ys : List AV} {v : Value} (himr : Imr im w) (hty : if isStrV y = true then isStrK (tyI P tx).kind = true else isSlice (tyI P tx).kind = true)
    (h : srcOf sz y = some ys) (hy : Rep im y v) : ∃ news, SrcA P im w sz tx v ys news := by
  unfold srcOf at h
  split at h
  · rename_i sz' ys' o
    split at h
    · rename_i e; subst e; cases h
      obtain ⟨e', hke⟩ := isSlice_inv (by simpa [isStrV] using hty)
      cases hy with
      | lnil _ _ ho => exact ⟨[], Src.ofNil w (u_slice hke) 0, by simp, by simp [flat]⟩
      | lz _ ad => exact ⟨[], Src.ofSlice w (u_slice hke) ad 0 0 [] (by simp) (by simp) (by simp), by simp, by simp [flat]⟩
      | lst _ _ _ b off cap f ho hc hz hi hr =>
        have hfl := flat_len hz
        have hcell : ∀ (k : Nat) (c : AV), (flat ys)[k]? = some c → im b (off + k) = some (f k) ∧ Rep im c (f k) := by
          intro k c hkc
          obtain ⟨i, j, e, rfl, he, hc'⟩ := get_flat hz hkc
          exact ⟨hi i j e c he hc', hr i j e c he hc'⟩
        refine ⟨(List.range (ys.length * sz')).map f, Src.ofSlice w (u_slice hke) ⟨b, off, none⟩ ys.length cap _ (by simp) (fun j u hu => ?_) (fun u hu => ?_), hz, fun k c u hkc hu => ?_⟩
        · rw [Addr.add_lit]
          simp only [List.getElem?_map, Option.map_eq_some_iff] at hu
          obtain ⟨m, hm, rfl⟩ := hu
          have hlt : j < ys.length * sz' := by have := (List.getElem?_eq_some_iff.1 hm).1; simpa using this
          rw [List.getElem?_range hlt] at hm; cases hm
          exact (himr.c _ _ _ (hcell j _ (List.getElem?_eq_getElem (by rw [hfl]; exact hlt))).1).1
        · obtain ⟨j, hj, rfl⟩ := List.mem_map.1 hu
          have hlt : j < ys.length * sz' := by simpa using hj
          exact (himr.c _ _ _ (hcell j _ (List.getElem?_eq_getElem (by rw [hfl]; exact hlt))).1).2
        · have hlt : k < ys.length * sz' := by rw [← hfl]; exact (List.getElem?_eq_some_iff.1 hkc).1
          rw [List.getElem?_map, List.getElem?_range hlt] at hu
          cases hu
          exact (hcell k c hkc).2
    · cases h
  · cases h
    rw [sInv hy]
    obtain ⟨e', hke⟩ := isSlice_inv (by simpa [isStrV] using hty)
    exact ⟨[], Src.ofNil w (u_slice hke) 0, by simp, by simp [flat]⟩
  · rename_i s
    split at h
    · rename_i e; subst e; cases h
      rw [sInv hy]
      have hst : (tyI P tx).kind = .str := isStrK_inv (by simpa [isStrV] using hty)
      refine ⟨byteCells s, ?_, ?_, fun k c u hkc hu => ?_⟩
      · have := Src.ofString (P := P) w (u_str hst) s
        have e : (bytesA s.data.toList).length = s.size := by simp [bytesA]
        rw [e]; exact this
      · intro e he
        obtain ⟨b, _, rfl⟩ := List.mem_map.1 he
        rfl
      · rw [flat_bytes] at hkc
        simp only [bytesA, byteCells, List.getElem?_map, Option.map_eq_some_iff] at hkc hu
        obtain ⟨b, hb, rfl⟩ := hkc
        obtain ⟨b', hb', rfl⟩ := hu
        rw [hb] at hb'; cases hb'
        exact .s _
    · cases h
  · cases h

theorem run_append_room_at (t tx ty e : TypeId) (i : TypeInfo) (ht : P.underlying t = some (.slice e)) (hi : P.info? e = some i) (g sLen sCap : Nat) (cur : Array Value) (hg : w.heap[g]? = some (.cells cur e (0, 0)))
    (x : Value) (n : Nat) (news : List Value) (hs : Src P i.size tx x n news w) (hroom : sLen + n ≤ sCap) (hfit : sLen * i.size + news.length ≤ cur.size) :
    (Builtin.append_ #[t, tx] ty #[.slice (some ⟨g, 0, none⟩) sLen sCap, x]).run P w =
      .ok (.slice (some ⟨g, 0, none⟩) (sLen + n) sCap) (w.setRow g (cur.toList.take (sLen * i.size) ++ news ++ cur.toList.drop (sLen * i.size + news.length)).toArray) := by
  have hst := run_storeCells_at P g (sLen * i.size) e news 0 cur w hg (by simpa using hfit) hs.one
  simp only [Nat.add_zero] at hst
  rcases hs.kind with ⟨e', hk⟩ | hk <;> simp [Builtin.append_, run_underlying ht, run_underlying hk, sizeOf, typeInfo, hi, hs.len, hroom, hs.cells, Addr.add_lit, hst]

theorem append_grow {t tx ty e : TypeId} {sz : Nat} {es ys : List AV} {v : Value} {news : List Value} (himr : Imr im w) (d : Nat) (ht : (tyI P t).kind = .slice e) (hsz : (tyI P e).size = sz) (hpos : 0 < sz)
    (hz0 : (tyI P e).zero.length = sz) {x : Value} (hs : SrcA P im w sz tx v ys news) {base : Option Addr} {cap : Nat} {olds : List Value} (hze : ∀ c ∈ es, c.cells.length = sz) (hx : x = .slice base es.length cap)
    (hold : (Builtin.firstCells sz es.length (.slice base es.length cap)).run P w.drew = .ok olds.toArray w.drew) (holen : olds.length = es.length * sz) (hone : ∀ u ∈ olds, u.oneCell' = true)
    (horep : ∀ (k : Nat) (c : AV) (u : Value), (flat es)[k]? = some c → olds[k]? = some u → Rep im c u) (hgrow : cap < es.length + ys.length) (hbound : (es.length + ys.length) * (tyI P e).bytes ≤ 140737488355328) (h63 : es.length + ys.length ≤ 9223372036854775807) :
    Goes P im w [] (Builtin.append_ #[t, tx] ty #[x, v]) fun av H => ∃ q, av = .lst sz (es ++ ys) (some (d, q)) ∧ H = [(d, .own e sz (es.length + ys.length) q)] := by
  obtain ⟨z, _, hzc, i, hi, hz⟩ := zero_run (P := P) (t := e) (by omega) w
  have hisz : i.size = sz := by have : (tyI P e).size = i.size := by simp [tyI, Program.cellsOf, hi]
                                omega
  have hiby : i.bytes = (tyI P e).bytes := by simp [tyI, Program.bytesOf, hi]
  subst hx
  have hrun := run_append_grow_src (P := P) w t tx ty e i z (u_slice ht) hi hz base es.length cap olds (by rw [hisz]; exact hold) v ys.length news (by rw [hisz]; exact hs.src) hgrow (by omega)
    (growslice_fits hgrow (by rw [hiby]; exact hbound))
  generalize hcap : grownCap w (es.length + ys.length) cap e = C at hrun
  have hC1 : es.length + ys.length ≤ C := by rw [← hcap]; exact grownCap_ge ..
  have hC2 : C ≤ maxLen := by rw [← hcap]; exact grownCap_le_maxLen _ _ _ _ (by simp only [maxLen]; omega)
  have hzs : z.cells.size = sz := by have := congrArg List.length hzc; simp at this; omega
  generalize hcells : ((olds ++ news).toArray ++ Builtin.zeroCells z.cells (C - (es.length + ys.length))) = cells at hrun
  have hnl := hs.src.newsLen
  have hlen : (olds ++ news).length = (es.length + ys.length) * sz := by rw [List.length_append, holen, hnl, Nat.add_mul]
  have hcsz : cells.size = C * sz := by
    rw [← hcells]
    simp only [Array.size_append, List.size_toArray, size_zeroCells, hzs, hlen, ← Nat.add_mul]
    congr 1; omega
  have hpre : ∀ (k : Nat) (u : Value), (olds ++ news)[k]? = some u → cells[k]? = some u := by
    intro k u hk
    have hlt := (List.getElem?_eq_some_iff.1 hk).1
    rw [← hcells, Array.getElem?_append_left (by simpa using hlt)]
    simpa using hk
  have hones : ∀ u ∈ olds ++ news, u.oneCell' = true := fun u hu => (List.mem_append.1 hu).elim (hone u) (hs.src.one u)
  have hnone := im_none himr (Nat.le_refl w.heap.size)
  have hle := ext_le (lo := 0) (vs := olds ++ news) (fun o _ => hnone o)
  have hfl : flat (es ++ ys) = flat es ++ flat ys := by simp [flat]
  have hfe := flat_len hze
  have hfy := flat_len hs.sizes
  refine ⟨_, ext im w.heap.size 0 (olds ++ news), _, .lst sz (es ++ ys) (some (d, .tip w.heap.size C)), _, hrun, ?_, ?_, .tip w.heap.size C, rfl, rfl⟩
  · have hsize : (w.drew.alloc (.cells cells e)).heap.size = w.heap.size + 1 := by simp
    have hnew : (w.drew.alloc (.cells cells e)).heap[w.heap.size]? = some (.cells cells e (0, 0)) := heap_new w.drew _
    have hold' : ∀ k, k < w.heap.size → (w.drew.alloc (.cells cells e)).heap[k]? = w.heap[k]? := fun k hk => heap_old w.drew _ hk
    refine ⟨rfl, rfl, rfl, by rw [hsize]; simp [here], fun k hk _ => ⟨hold' k hk, fun o => ?_, rfl⟩, hle, ⟨fun k o u hu => ?_, fun k x hx => by rw [hold' k (Array.getElem?_eq_some_iff.1 (himr.m k x hx)).1]; exact himr.m k x hx⟩, fun x hx => ?_, fun k hk => ?_, by simp [keys, Res.key]⟩
    · have hk' : k < w.heap.size := hk
      show (ext im w.heap.size 0 (olds ++ news)) k o = im k o
      rw [ext_out (by omega)]
    · simp only [ext] at hu
      split at hu
      · rename_i hc
        obtain ⟨rfl, _, _⟩ := hc
        refine ⟨?_, hones u (List.mem_of_getElem? hu)⟩
        simp only [World.cell?, hnew]
        simpa using hpre _ _ hu
      · obtain ⟨a1, a2⟩ := himr.c k o u hu
        refine ⟨?_, a2⟩
        have hlt := im_lt himr hu
        simp only [World.cell?, hold' k hlt] at a1 ⊢
        exact a1
    · simp only [List.mem_singleton] at hx
      subst hx
      refine ⟨cells, hnew, hcsz, hC1, hC2, fun o ho => ?_⟩
      rw [ext_out (by rw [hlen]; omega)]
      exact hnone o
    · simp [keys, Res.key] at hk
      subst hk
      exact .inr (Nat.le_refl _)
  · have hl : es.length + ys.length = (es ++ ys).length := by simp
    rw [hl]
    refine Rep.ofFlat (fun l q hq => by cases hq; exact ⟨rfl, rfl⟩) (by rw [← hl]; exact hC1) (fun c hc => (List.mem_append.1 hc).elim (hze c) (hs.sizes c)) (fun k => (olds ++ news).getD k undef) (fun k c hk => ?_)
    rw [hfl] at hk
    have hlt : k < (olds ++ news).length := by
      have := (List.getElem?_eq_some_iff.1 hk).1
      rw [List.length_append, hfe, hfy] at this
      rw [hlen, Nat.add_mul]; omega
    have hgetD : (olds ++ news)[k]? = some ((olds ++ news).getD k undef) := by simp [List.getD, List.getElem?_eq_getElem hlt]
    refine ⟨by have := ext_at (im := im) (b := w.heap.size) (lo := 0) hgetD; simpa using this, Rep.mono hle ?_⟩
    by_cases hk1 : k < (flat es).length
    · rw [List.getElem?_append_left hk1] at hk
      rw [List.getElem?_append_left (by rw [holen, ← hfe]; exact hk1)] at hgetD
      exact horep k c _ hk hgetD
    · rw [List.getElem?_append_right (by omega)] at hk
      rw [List.getElem?_append_right (by rw [holen, ← hfe]; omega), holen, ← hfe] at hgetD
      exact hs.reps _ c _ hk hgetD

theorem append_own {t tx ty e : TypeId} {sz : Nat} {es ys : List AV} {v x : Value} {news : List Value} (himr : Imr im w) (l d : Nat) (ht : (tyI P t).kind = .slice e) (hsz : (tyI P e).size = sz) (hpos : 0 < sz)
    (hz0 : (tyI P e).zero.length = sz) (hs : SrcA P im w sz tx v ys news) {g cap : Nat} {lo : Nat} (hx : Rep im (.lst sz es (some (lo, .tip g cap))) x) (hr : ResOk im w (.own e sz es.length (.tip g cap)))
    (hbound : (es.length + ys.length) * (tyI P e).bytes ≤ 140737488355328) (h63 : es.length + ys.length ≤ 9223372036854775807) :
    Goes P im w [(l, .own e sz es.length (.tip g cap))] (Builtin.append_ #[t, tx] ty #[x, v]) fun av H => ∃ q, av = .lst sz (es ++ ys) (some (d, q)) ∧ H = [(d, .own e sz (es.length + ys.length) q)] := by
  cases hx with
  | lnil _ _ ho => exact absurd rfl (ho lo g cap)
  | lst _ _ _ b off cap' f ho hc hz hi hr' =>
    obtain ⟨hq, rfl⟩ := ho lo _ rfl
    cases hq
    obtain ⟨cur, hw, hcs, hn, hm, hnone⟩ := id hr
    have hfe := flat_len hz
    have hfy := flat_len hs.sizes
    have hfl : flat (es ++ ys) = flat es ++ flat ys := by simp [flat]
    have hcell : ∀ (k : Nat) (c : AV), (flat es)[k]? = some c → im g k = some (f k) ∧ Rep im c (f k) := by
      intro k c hk
      obtain ⟨i, j, e, rfl, he, hc'⟩ := get_flat hz hk
      have := hi i j e c he hc'
      rw [Nat.zero_add] at this
      exact ⟨this, hr' i j e c he hc'⟩
    have hl : es.length + ys.length = (es ++ ys).length := by simp
    by_cases hroom : es.length + ys.length ≤ cap
    · obtain ⟨z, _, hzc, i, hi', hz'⟩ := zero_run (P := P) (t := e) (by omega) w
      have hisz : i.size = sz := by have : (tyI P e).size = i.size := by simp [tyI, Program.cellsOf, hi']
                                    omega
      have hnl := hs.src.newsLen
      have hfit : es.length * sz + news.length ≤ cur.size := by rw [hnl, hcs, ← Nat.add_mul]; exact Nat.mul_le_mul_right _ hroom
      have hrun := run_append_room_at (P := P) t tx ty e i (u_slice ht) hi' g es.length cap cur hw v ys.length news (by rw [hisz]; exact hs.src) hroom (by rw [hisz]; exact hfit)
      rw [hisz] at hrun
      generalize hrow : (cur.toList.take (es.length * sz) ++ news ++ cur.toList.drop (es.length * sz + news.length)).toArray = row at hrun
      have hrsz : row.size = cur.size := by
        rw [← hrow]
        simp only [List.size_toArray, List.length_append, List.length_take, List.length_drop, Array.length_toList]
        omega
      have hlt1 : (List.take (es.length * sz) cur.toList).length = es.length * sz := by simp; omega
      have hle := ext_le (im := im) (b := g) (lo := es.length * sz) (vs := news) hnone
      refine ⟨_, ext im g (es.length * sz) news, _, .lst sz (es ++ ys) (some (d, .tip g cap)), _, hrun, ?_, ?_, .tip g cap, rfl, rfl⟩
      · refine Ok.row (b := g) himr rfl rfl hr ⟨row, setRow_heap w g cur row e (0, 0) hw, by rw [hrsz, hcs], hroom, hm, fun o ho' => ?_⟩ rfl rfl rfl (size_setRow ..) (fun k hk => setRow_other w g k _ hk) (fun k hk o => ?_) hle rfl (cells_m himr hw) (fun o u hu => ?_)
        · rw [ext_out (by rw [hnl, ← Nat.add_mul]; omega)]
          exact hnone o (Nat.le_trans (Nat.mul_le_mul_right _ (by omega)) ho')
        · rw [ext_out (by omega)]
        · simp only [World.cell?, setRow_heap w g cur row e (0, 0) hw]
          simp only [ext] at hu
          split at hu
          · rename_i hc1
            refine ⟨?_, hs.src.one u (List.mem_of_getElem? hu)⟩
            rw [← hrow]
            simp only [Option.isSome_none, Bool.false_eq_true, if_false, List.getElem?_toArray, List.append_assoc]
            rw [List.getElem?_append_right (by omega), hlt1, List.getElem?_append_left (by omega)]
            exact hu
          · have hlt : o < es.length * sz := by
              rcases Nat.lt_or_ge o (es.length * sz) with h1 | h1
              · exact h1
              · rw [hnone o h1] at hu; cases hu
            obtain ⟨a1, a2⟩ := himr.c g o u hu
            refine ⟨?_, a2⟩
            simp only [World.cell?, hw, Option.isSome_none, Bool.false_eq_true, if_false] at a1
            rw [← hrow]
            simp only [Option.isSome_none, Bool.false_eq_true, if_false, List.getElem?_toArray, List.append_assoc]
            rw [List.getElem?_append_left (by omega), List.getElem?_take, if_pos hlt]
            simpa using a1
      · rw [hl]
        refine Rep.ofFlat (fun l q hq => by cases hq; exact ⟨rfl, rfl⟩) (by rw [← hl]; exact hroom) (fun c hc => (List.mem_append.1 hc).elim (hz c) (hs.sizes c)) (fun k => if k < es.length * sz then f k else news.getD (k - es.length * sz) undef) (fun k c hk => ?_)
        rw [hfl] at hk
        by_cases hk1 : k < es.length * sz
        · rw [List.getElem?_append_left (by omega)] at hk
          obtain ⟨a1, a2⟩ := hcell k c hk
          simp only [hk1, if_true, Nat.zero_add]
          exact ⟨hle.c _ _ _ a1, a2.mono hle⟩
        · rw [List.getElem?_append_right (by omega), hfe] at hk
          simp only [hk1, if_false, Nat.zero_add]
          have hlt : k - es.length * sz < news.length := by
            have := (List.getElem?_eq_some_iff.1 hk).1
            rw [hfy] at this; omega
          have hgetD : news[k - es.length * sz]? = some (news.getD (k - es.length * sz) undef) := by simp [List.getD, List.getElem?_eq_getElem hlt]
          refine ⟨?_, (hs.reps _ c _ hk hgetD).mono hle⟩
          have := ext_at (im := im) (b := g) (lo := es.length * sz) hgetD
          rwa [show es.length * sz + (k - es.length * sz) = k by omega] at this
    · have holds : (List.range (es.length * sz)).map f = (List.range (es.length * sz)).map f := rfl
      have hgt : ∀ k, k < es.length * sz → ∃ c, (flat es)[k]? = some c := fun k hk => ⟨_, List.getElem?_eq_getElem (by omega)⟩
      obtain ⟨v', im', w', av, H', h1, h2, h3, h4⟩ := append_grow (P := P) (im := im) (w := w) (ty := ty) himr d ht hsz hpos hz0 hs (base := some ⟨g, 0, none⟩) (cap := cap) (olds := (List.range (es.length * sz)).map f) hz rfl
        (run_firstCells_some w.drew sz es.length _ _ _ _ (by simp) (fun j u hu => by
          simp only [List.getElem?_map, Option.map_eq_some_iff] at hu
          obtain ⟨m, hm', rfl⟩ := hu
          have hlt : j < es.length * sz := by have := (List.getElem?_eq_some_iff.1 hm').1; simpa using this
          rw [List.getElem?_range hlt] at hm'; cases hm'
          obtain ⟨c, hc'⟩ := hgt j hlt
          rw [Addr.add_lit, Nat.zero_add]
          exact (himr.c _ _ _ (hcell j c hc').1).1))
        (by simp) (fun u hu => by
          obtain ⟨j, hj, rfl⟩ := List.mem_map.1 hu
          obtain ⟨c, hc'⟩ := hgt j (by simpa using hj)
          exact (himr.c _ _ _ (hcell j c hc').1).2)
        (fun k c u hk hu => by
          have hlt : k < es.length * sz := by rw [← hfe]; exact (List.getElem?_eq_some_iff.1 hk).1
          rw [List.getElem?_map, List.getElem?_range hlt] at hu
          cases hu
          exact (hcell k c hk).2)
        (by omega) hbound h63
      refine ⟨v', im', w', av, H', h1, ?_, h3, h4⟩
      have hbase : Ok (here im w ([] ++ [])) im w ([] ++ []) := ⟨rfl, rfl, rfl, Nat.le_refl _, fun _ _ _ => ⟨rfl, fun _ => rfl, rfl⟩, Le.refl _, himr, by simp, by simp [keys], by simp [keys]⟩
      exact ⟨h2.os, h2.tape, h2.output, h2.size, fun k hk _ => h2.frame k hk (by simp [here, keys]), h2.le, h2.imr, h2.own, fun k hk => (h2.fresh k hk).elim (fun h => absurd h (by simp [here, keys])) .inr, h2.nodup⟩

theorem append_nil {t tx ty e : TypeId} {sz : Nat} {ys : List AV} {v : Value} {news : List Value} (himr : Imr im w) (d : Nat) (ht : (tyI P t).kind = .slice e) (hsz : (tyI P e).size = sz) (hpos : 0 < sz)
    (hz0 : (tyI P e).zero.length = sz) (hs : SrcA P im w sz tx v ys news) (hbound : ys.length * (tyI P e).bytes ≤ 140737488355328) (h63 : ys.length ≤ 9223372036854775807) :
    Goes P im w [] (Builtin.append_ #[t, tx] ty #[.slice none 0 0, v]) fun av H => ∃ q, av = .lst sz ys (some (d, q)) ∧ H = [(d, .own e sz ys.length q)] := by
  by_cases hy : ys = []
  · subst hy
    refine ⟨.slice none 0 0, im, w, .lst sz [] (some (d, .nil)), _, ?_, ?_, .lnil _ _ (by simp), .nil, rfl, rfl⟩
    · obtain ⟨z, _, hzc, i, hi', hz'⟩ := zero_run (P := P) (t := e) (by omega) w
      have hlen := hs.src.len
      have hcl := hs.src.cells
      have hnil : news = [] := List.eq_nil_of_length_eq_zero (by have := hs.src.newsLen; simpa using this)
      simp only [List.length_nil] at hlen
      have hisz : i.size = sz := by have : (tyI P e).size = i.size := by simp [tyI, Program.cellsOf, hi']
                                    omega
      simp only [List.length_nil, ← hisz] at hcl
      rcases hs.src.kind with ⟨e', hk⟩ | hk <;> simp [Builtin.append_, run_underlying (u_slice ht), run_underlying hk, sizeOf, typeInfo, hi', hlen, hcl]
    · exact ⟨rfl, rfl, rfl, Nat.le_refl _, fun _ _ _ => ⟨rfl, fun _ => rfl, rfl⟩, Le.refl _, himr, fun x hx => by simp at hx; subst hx; trivial, fun k hk => by simp [keys, Res.key] at hk, by simp [keys, Res.key]⟩
  · have hlen : 0 < ys.length := List.length_pos_iff.2 hy
    have := append_grow (P := P) (im := im) (w := w) (ty := ty) himr d ht hsz hpos hz0 hs (es := []) (base := none) (cap := 0) (olds := []) (by simp) rfl (run_firstCells_none w.drew sz 0 0 0) (by simp) (by simp) (by simp [flat]) (by simpa using hlen)
      (by simpa using hbound) (by simpa using h63)
    simpa using this
end
end Go.Proofs.YtjhnabdcmfjeoaaGreatDoor.Ab
/- Slices written out, made, and out of texts; maps. Own work; a plain theory over any program. -/
set_option linter.unusedVariables false
set_option linter.unusedSimpArgs false
namespace Go.Proofs.YtjhnabdcmfjeoaaGreatDoor.Ab
open Go

section
variable {P : Program} {im : Im} {w : World}

theorem fillS {sz : Nat} : ∀ (es : List AV) (k : Nat) (pre zs : List AV) (arr : Array Value) (ps : List (Nat × Value)), RepCells im (pre ++ zs) arr → pre.length = k * sz → zs.length = es.length * sz →
    (∀ e ∈ es, e.ones = true ∧ e.cells.length = sz) → ps.map (·.1) = List.range' k es.length → (∀ (i : Nat) (e : AV) (p : Nat × Value), es[i]? = some e → ps[i]? = some p → Rep im e p.2) →
    (∀ (i : Nat) (u : Value), arr[i]? = some u → i < k * sz → u.oneCell' = true) →
    ∃ arr', Instr.fill (fun i => some (i * sz, sz)) arr ps = some arr' ∧ RepCells im (pre ++ flat es) arr' ∧ ∀ (i : Nat) (u : Value), arr'[i]? = some u → i < (k + es.length) * sz → u.oneCell' = true := by
  intro es
  induction es with
  | nil =>
    intro k pre zs arr ps h hp hz he hps hr h1
    have : ps = [] := by simpa using hps
    subst this
    have hz0 : zs = [] := List.eq_nil_of_length_eq_zero (by simpa using hz)
    subst hz0
    exact ⟨arr, rfl, by simpa [flat] using h, by simpa using h1⟩
  | cons e es ih =>
    intro k pre zs arr ps h hp hz he hps hr h1
    cases ps with
    | nil => simp at hps
    | cons p ps =>
      simp only [List.map_cons, List.length_cons, List.range'_succ, List.cons.injEq] at hps
      obtain ⟨hp1, hps⟩ := hps
      obtain ⟨ho, hc⟩ := he e (by simp)
      obtain ⟨⟨v1, v2⟩, v3⟩ := ones_cells ho (hr 0 e p rfl rfl)
      have hz' : zs.length = es.length * sz + sz := by rw [hz, List.length_cons, Nat.add_mul]; omega
      have hspl := splice_rep (off := k * sz) h ⟨v1, v2⟩ (by simp [hp, hc]; omega)
      have hput : putCells (pre ++ zs) (k * sz) e.cells = (pre ++ e.cells) ++ zs.drop sz := by
        simp only [putCells]
        rw [← hp, List.take_left, List.drop_append, hc]
        simp
      rw [hput] at hspl
      have hsz := h.1
      simp only [List.length_append] at hsz
      have hget := fun i => splice_get (k * sz) p.2.cells.toList 0 arr i (by simp [v1, hc]; omega)
      have hfold : p.2.cells.zipIdx.foldl (fun cs (x : Value × Nat) => cs.setIfInBounds (k * sz + x.2) x.1) arr = (p.2.cells.toList.zipIdx 0).foldl (fun cs (x : Value × Nat) => cs.setIfInBounds (k * sz + x.2) x.1) arr := by
        rw [← Array.foldl_toList, Array.toList_zipIdx]
      obtain ⟨arr', a1, a2, a3⟩ := ih (k + 1) (pre ++ e.cells) (zs.drop sz) _ ps hspl (by rw [List.length_append, hp, hc, Nat.add_mul]; omega) (by simp; omega) (fun x hx => he x (by simp [hx])) hps
        (fun i x q hi hq => hr (i + 1) x q hi hq) (fun i u hu hi => by
          rw [hfold, (hget i).2] at hu
          rw [Nat.add_mul, Nat.one_mul] at hi
          split at hu
          · exact v3 _ u (by simpa using hu)
          · rename_i hcc
            have hlen : p.2.cells.toList.length = sz := by simp [v1, hc]
            exact h1 i u hu (by omega))
      refine ⟨arr', ?_, by rw [List.append_assoc] at a2; exact a2, fun i u hu hi => a3 i u hu (by rw [List.length_cons] at hi; rw [Nat.add_assoc, Nat.add_comm 1]; exact hi)⟩
      obtain ⟨pi, pv⟩ := p
      simp only at hp1 v1 a1
      subst hp1
      simp only [Instr.fill]
      rw [if_neg]
      · exact a1
      · simp [v1, hc]; omega

/-- A slice written out, its elements one by one. -/
def bslA (P : Program) (t : TypeId) (n : Nat) (parts : List (Nat × AV)) : Option (TypeId × List AV) :=
  match (tyI P t).kind with
  | .slice e => if parts.map (·.1) = List.range n ∧ 0 < (tyI P e).size ∧ (tyI P e).zero.length = (tyI P e).size ∧ n * (tyI P e).size ≤ 16777216 ∧ (parts.all fun x => x.2.ones && x.2.cells.length == (tyI P e).size) = true then some (e, parts.map (·.2)) else none
  | _ => none

theorem bsl_run {t : TypeId} {n : Nat} {parts : List (Nat × AV)} {ps : Array (Nat × Value)} {e : TypeId} {es : List AV} (h : bslA P t n parts = some (e, es)) (hps : ps.toList.map (·.1) = parts.map (·.1))
    (hr : ∀ (i f : Nat) (av : AV) (f' : Nat) (v : Value), parts[i]? = some (f, av) → ps.toList[i]? = some (f', v) → Rep im av v) :
    ∃ cells : Array Value, (Instr.buildSlice t n ps).run P w = .ok (.slice (some ⟨w.heap.size, 0, none⟩) n n) (w.alloc (.cells cells e)) ∧ RepCells im (flat es) cells ∧ (∀ (i : Nat) (u : Value), cells[i]? = some u → u.oneCell' = true) ∧
      es.length = n ∧ (∀ x ∈ es, x.cells.length = (tyI P e).size) ∧ 0 < (tyI P e).size := by
  unfold bslA at h
  split at h
  · rename_i e' hk
    split at h
    · rename_i hc
      obtain ⟨c1, c2, c3, c4, c5⟩ := hc
      simp only [Option.some.injEq, Prod.mk.injEq] at h
      obtain ⟨rfl, rfl⟩ := h
      have hn : parts.length = n := by have := congrArg List.length c1; simpa using this
      obtain ⟨z, hz, hzc, _⟩ := zero_run (P := P) (t := e') (by omega) w
      have hzs : z.cells.size = (tyI P e').size := by have := congrArg List.length hzc; simp at this; omega
      have hall : ∀ x ∈ parts.map (·.2), x.ones = true ∧ x.cells.length = (tyI P e').size := by
        intro x hx
        obtain ⟨p, hp, rfl⟩ := List.mem_map.1 hx
        have := List.all_eq_true.1 c5 p hp
        simpa using this
      obtain ⟨arr, a1, a2, a3⟩ := fillS (im := im) (sz := (tyI P e').size) (parts.map (·.2)) 0 [] (List.replicate (n * (tyI P e').size) .any) ((Array.range (n * (tyI P e').size)).map (z.cells[· % z.cells.size]!)) ps.toList
        ⟨by simp, fun i c v hi _ => by
          simp only [List.nil_append, List.getElem?_replicate] at hi
          split at hi
          · cases hi; exact .any v
          · cases hi⟩ (by simp) (by simp [hn]) hall (by rw [hps, c1]; simp [hn, List.range_eq_range'])
        (fun i x p hi hp => by
          simp only [List.getElem?_map, Option.map_eq_some_iff] at hi
          obtain ⟨y, hy, rfl⟩ := hi
          exact hr i y.1 y.2 p.1 p.2 hy hp) (fun i u _ hi => by simp at hi)
      refine ⟨arr, ?_, by simpa using a2, fun i u hu => a3 i u hu ?_, by simp [hn], fun x hx => (hall x hx).2, c2⟩
      · have hne : ¬ (n * (tyI P e').size = 0 ∧ False) := by simp
        have h16 : ¬ (16777216 < n * (tyI P e').size) := by omega
        have hso : ∀ w : World, (sizeOf e').run P w = .ok (tyI P e').size w := fun w => run_sizeOf' (P := P) (t := e') c2 w
        by_cases h0 : n * (tyI P e').size = 0
        · have hn0 : n = 0 := by rcases Nat.mul_eq_zero.1 h0 with h | h; exact h; omega
          subst hn0
          have hp0 : parts = [] := List.eq_nil_of_length_eq_zero hn
          subst hp0
          have hps0 : ps = #[] := by have := congrArg List.length hps; simp at this; simpa using this
          subst hps0
          simp only [Nat.zero_mul, Instr.fill] at a1
          cases a1
          simp [Instr.buildSlice, run_underlying (u_slice hk), hso, Instr.fill, newRow, Array.range_zero']
        · simp only [Instr.buildSlice, Sem.run_bind, run_underlying (u_slice hk), Result.andThen_ok, hso]
          rw [if_neg (by omega), if_neg h0]
          simp only [Sem.run_bind, hz, Result.andThen_ok, Sem.run_pure, a1, newRow, run_newObj]
          rfl
      · have := (Array.getElem?_eq_some_iff.1 hu).1
        rw [a2.1] at this
        simp only [List.nil_append, Nat.zero_add, List.length_map] at this ⊢
        rw [flat_len (fun x hx => (hall x hx).2)] at this
        simpa using this
    · cases h
  · cases h

theorem bsl_lays {t : TypeId} {n : Nat} {parts : List (Nat × AV)} {ps : Array (Nat × Value)} {e : TypeId} {es : List AV} (himr : Imr im w) (h : bslA P t n parts = some (e, es)) (hps : ps.toList.map (·.1) = parts.map (·.1))
    (hr : ∀ (i f : Nat) (av : AV) (f' : Nat) (v : Value), parts[i]? = some (f, av) → ps.toList[i]? = some (f', v) → Rep im av v) (d : Nat) :
    ∃ b im' w', (Instr.buildSlice t n ps).run P w = .ok (.slice (some ⟨b, 0, none⟩) n n) w' ∧ Ok (here im w []) im' w' [(d, .own e (tyI P e).size n (.tip b n))] ∧
      Rep im' (.lst (tyI P e).size es (some (d, .tip b n))) (.slice (some ⟨b, 0, none⟩) n n) ∧ es.length = n ∨ ¬ n ≤ maxLen := by
  by_cases hm : n ≤ maxLen
  · obtain ⟨cells, h1, h2, h3, h4, h5, h6⟩ := bsl_run (w := w) h hps hr
    obtain ⟨k1, k2, k3⟩ := lays_block himr cells e (0, 0) h3
    have hfl := flat_len h5
    refine ⟨w.heap.size, _, _, .inl ⟨h1, k1.add d _ ⟨cells, heap_new w _, by rw [h2.1, hfl, h4], Nat.le_refl _, hm, fun o ho => ?_⟩ (fun k hk => by cases hk; exact ⟨.inr (Nat.le_refl _), by simp [keys]⟩), ?_, h4⟩⟩
    · simp only [protect, if_true]
      rw [if_neg (by rw [h2.1, hfl, h4]; omega)]
    · subst h4
      refine Rep.ofFlat (fun l q hq => by cases hq; exact ⟨rfl, rfl⟩) (Nat.le_refl _) h5 (fun k => cells.getD k undef) (fun k c hk => ?_)
      have hlt : k < cells.size := by rw [h2.1]; exact (List.getElem?_eq_some_iff.1 hk).1
      have hg : cells[k]? = some (cells.getD k undef) := by simp [hlt]
      rw [Nat.zero_add]
      exact ⟨k3 _ _ hg, (h2.2 k c _ hk hg).mono k2⟩
  · exact ⟨0, im, w, .inr hm⟩

/-! A text as bytes. -/
theorem bytes_lays {s d e : TypeId} {b : ByteArray} (himr : Imr im w) (h1 : (tyI P s).kind = .str) (h2 : (tyI P d).kind = .slice e) (h3 : (tyI P e).kind = .int .u8) (hsz : (tyI P e).size = 1) (hb : b.size ≤ 9223372036854775807) :
    Lays P im w (convert s d (.string b)) (.lst 1 (bytesA b.data.toList) none) := by
  generalize hC : (Question.appendCap b.size 0 e).cut (w.tape w.drawn (.appendCap b.size 0 e)) = C
  have hC1 : b.size ≤ C := by rw [← hC]; simp only [Question.cut]; omega
  generalize hcl : (b.data.map (fun x => Value.int .u8 x.toNat) ++ Array.replicate (C - b.size) (Value.int .u8 0)) = cells
  have hrun : (convert s d (.string b)).run P w = .ok (.slice (some ⟨w.heap.size, 0, none⟩) b.size C) (((w.drew).alloc (.cells cells e)).freeze { block := w.heap.size, off := cells.size } 1) := by
    simp only [convert, Sem.run_bind, run_underlying (u_str h1), run_underlying (u_slice h2), run_underlying (u_int h3), Result.andThen_ok, Conv.stringToBytes, run_choose, Question.forced, Bool.false_eq_true, if_false, hC, hcl, newRow,
      run_newObj, Sem.run_pure, markStringish, run_shape]
    have : World.shape? { heap := Array.push w.heap (Obj.cells cells e), tape := w.tape, drawn := w.drawn + 1, os := w.os, output := w.output } w.heap.size = some (e, cells.size) := by simp [World.shape?]
    simp only [this, run_freeze]
    rfl
  have hone : ∀ (i : Nat) (v : Value), cells[i]? = some v → v.oneCell' = true := by
    intro i v hv
    have hm : v ∈ cells := Array.mem_of_getElem? hv
    rw [← hcl, Array.mem_append] at hm
    rcases hm with hm | hm
    · obtain ⟨x, _, rfl⟩ := Array.mem_map.1 hm; rfl
    · rw [Array.mem_replicate] at hm; rw [hm.2]; rfl
  have hnone := im_none himr (Nat.le_refl w.heap.size)
  have hheap : (((w.drew).alloc (.cells cells e)).freeze { block := w.heap.size, off := cells.size } 1).heap[w.heap.size]? = some (.cells cells e (cells.size, cells.size + 1)) := by
    have : (w.drew.alloc (.cells cells e)).heap[w.heap.size]? = some (.cells cells e (0, 0)) := heap_new w.drew _
    simp only [World.freeze, Nat.one_ne_zero, if_false]
    rw [Array.getElem?_modify, if_pos rfl, this]
    simp
  have hother : ∀ k, k < w.heap.size → (((w.drew).alloc (.cells cells e)).freeze { block := w.heap.size, off := cells.size } 1).heap[k]? = w.heap[k]? := by
    intro k hk
    have : (w.drew.alloc (.cells cells e)).heap[k]? = w.heap[k]? := heap_old w.drew _ hk
    simp only [World.freeze, Nat.one_ne_zero, if_false, Array.getElem?_modify]
    rw [if_neg (by omega)]; exact this
  have hbase : Ok (here im w []) im (((w.drew).alloc (.cells cells e)).freeze { block := w.heap.size, off := cells.size } 1) [] :=
    ⟨rfl, rfl, rfl, by simp [World.freeze, here], fun k hk _ => ⟨hother k hk, fun _ => rfl, rfl⟩, Le.refl _, ⟨fun k o v hv => by
      obtain ⟨a1, a2⟩ := himr.c k o v hv
      refine ⟨?_, a2⟩
      simp only [World.cell?, hother k (im_lt himr hv)] at a1 ⊢
      exact a1, fun k x hx => by
      have := himr.m k x hx
      rw [hother k (Array.getElem?_eq_some_iff.1 this).1]; exact this⟩, by simp, by simp [keys], by simp [keys]⟩
  refine ⟨_, protect im w.heap.size cells, _, hrun, hbase.protect _ cells e _ hheap hone hnone (by simp [keys]) (.inr (Nat.le_refl _)), ?_⟩
  have hlen : (bytesA b.data.toList).length = b.size := by simp [bytesA]
  rw [← hlen]
  refine Rep.ofFlat (by simp) (by rw [hlen]; exact hC1) (fun x hx => by obtain ⟨y, _, rfl⟩ := List.mem_map.1 hx; rfl) (fun k => cells.getD k undef) (fun k c hk => ?_)
  rw [flat_bytes] at hk
  have hlt : k < b.size := by rw [← hlen]; exact (List.getElem?_eq_some_iff.1 hk).1
  have hcsz : cells.size = C := by
    rw [← hcl]; simp
    have : b.data.size = b.size := rfl
    omega
  have hg : cells[k]? = some (cells.getD k undef) := by simp [show k < cells.size by omega]
  rw [Nat.zero_add]
  refine ⟨by show (protect im w.heap.size cells).c w.heap.size k = _; simp only [protect, if_true]; rw [if_pos (by omega)]; exact hg, ?_⟩
  simp only [bytesA, List.getElem?_map, Option.map_eq_some_iff] at hk
  obtain ⟨x, hx, rfl⟩ := hk
  have hx' : b.data[k]? = some x := by rw [← Array.getElem?_toList]; exact hx
  have : cells[k]? = some (.int .u8 x.toNat) := by
    rw [← hcl, Array.getElem?_append_left (by simpa using hlt), Array.getElem?_map, hx']
    rfl
  rw [this] at hg
  simp only [Option.some.injEq] at hg
  rw [← hg]
  exact .s _
end
end Go.Proofs.YtjhnabdcmfjeoaaGreatDoor.Ab
/- Maps with texts as keys, going over a text, lists that are made empty. Own work; a plain theory over any program. -/
set_option linter.unusedVariables false
set_option linter.unusedSimpArgs false
namespace Go.Proofs.YtjhnabdcmfjeoaaGreatDoor.Ab
open Go Go.MapKept

/-- What stands under a text in a map; 'none': a key that is no text. -/
def lookS (k : List UInt8) : List (Value × AV) → Option (Option AV)
  | [] => some none
  | (.string b, v) :: es => if b.data.toList = k then some (some v) else lookS k es
  | _ => none

def zeroV (P : Program) (t : TypeId) : Option Value := (P.info? t).bind (·.zero)

def foundA (z : Option Value) (comma : Bool) : Option (Option AV) → Option AV
  | some (some v) => some (if comma = true then .tup [v, .s (.bool true)] else v)
  | some none => z.map fun z => if comma = true then .tup [.s z, .s (.bool false)] else .s z
  | none => none

def findMp (b : Nat) : AHeap → Option (List (Value × AV))
  | [] => none
  | (_, .mp b' es) :: H => if b' = b then some es else findMp b H
  | _ :: H => findMp b H

theorem findMp_mem {b : Nat} : ∀ {H : AHeap} {es : List (Value × AV)}, findMp b H = some es → ∃ l, (l, Res.mp b es) ∈ H
  | [], _, h => by cases h
  | (l, r) :: H, es, h => by
    cases r with
    | mp b' es' =>
      simp only [findMp] at h
      split at h
      · rename_i e; cases h; subst e; exact ⟨l, List.mem_cons_self⟩
      · obtain ⟨l', h'⟩ := findMp_mem h; exact ⟨l', List.mem_cons_of_mem _ h'⟩
    | _ => obtain ⟨l', h'⟩ := findMp_mem (H := H) h; exact ⟨l', List.mem_cons_of_mem _ h'⟩

/-- 'm[k]': in a map that is read only, in nil, in one that is owned. -/
def lookupA (P : Program) (H : AHeap) (t : TypeId) (m k : AV) (comma : Bool) : Option AV :=
  match (tyI P t).kind, k with
  | .map kt e, .s (.string b) => match (tyI P kt).kind with
    | .str => match m with
      | .mpr es => foundA (zeroV P e) comma (lookS b.data.toList es)
      | .s (.map none) => foundA (zeroV P e) comma (some none)
      | .s (.map (some r)) => (findMp r H).bind fun es => foundA (zeroV P e) comma (lookS b.data.toList es)
      | _ => none
    | _ => none
  | _, _ => none

section
variable {P : Program} {im : Im} {w : World}

theorem string_eq {a b : ByteArray} (h : a.data.toList = b.data.toList) : a = b := by
  cases a; cases b; simp only [ByteArray.mk.injEq]; exact Array.toList_inj.1 h

theorem look_list {kb : ByteArray} : ∀ (l : List MapEntry) (es : List (Value × AV)) (i : Nat), l.length = es.length → (∀ (j : Nat) (m : MapEntry) (x : Value × AV), l[j]? = some m → es[j]? = some x → m.key = x.1 ∧ Rep im x.2 m.val) →
    ∀ r, lookS kb.data.toList es = some r → (r = none ∧ Instr.findNow .string (.string kb) l i = some none) ∨ ∃ v j u, r = some v ∧ Instr.findNow .string (.string kb) l i = some (some (j, u)) ∧ Rep im v u
  | [], [], i, _, _, r, h => by cases h; exact .inl ⟨rfl, rfl⟩
  | [], _ :: _, _, h, _, _, _ => by simp at h
  | _ :: _, [], _, h, _, _, _ => by simp at h
  | m :: l, (k, v) :: es, i, hl, hr, r, h => by
    obtain ⟨h1, h2⟩ := hr 0 m (k, v) rfl rfl
    simp only at h1 h2
    unfold lookS at h
    split at h
    · rename_i e; cases e
    · rename_i b v' es' e
      simp only [List.cons.injEq, Prod.mk.injEq] at e
      obtain ⟨⟨e1, e2⟩, e3⟩ := e
      subst e1 e2 e3
      split at h
      · rename_i e
        cases h
        have := string_eq e
        subst this
        exact .inr ⟨_, i, m.val, rfl, by simp [Instr.findNow, Instr.sameNow, h1, (bytes_beq b b).2 rfl], h2⟩
      · rename_i e
        have hne : (kb == b) = false := by
          cases hq : (kb == b) with
          | false => rfl
          | true => exact absurd (by rw [(bytes_beq kb b).1 hq]) e
        rcases look_list l es (i + 1) (by simpa using hl) (fun j m x hm hx => hr (j + 1) m x (by simpa using hm) (by simpa using hx)) r h with h' | h'
        · exact .inl ⟨h'.1, by simp [Instr.findNow, Instr.sameNow, h1, hne, h'.2]⟩
        · obtain ⟨v', j, u, e1, e2, e3⟩ := h'
          exact .inr ⟨v', j, u, e1, by simp [Instr.findNow, Instr.sameNow, h1, hne, e2], e3⟩
    · cases h

theorem run_lookup {t kt e : TypeId} {m : Value} {ms : Array MapEntry} {kb : ByteArray} {comma : Bool} {es : List (Value × AV)} {av : AV} (ht : (tyI P t).kind = .map kt e) (hk : (tyI P kt).kind = .str)
    (hm : (m = .map none ∧ ms = #[]) ∨ ∃ r clock, m = .map (some r) ∧ w.heap[r]? = some (.map ms clock)) (hl : ms.size = es.length)
    (hr : ∀ (j : Nat) (m : MapEntry) (x : Value × AV), ms[j]? = some m → es[j]? = some x → m.key = x.1 ∧ Rep im x.2 m.val)
    (h : foundA (zeroV P e) comma (lookS kb.data.toList es) = some av) :
    Pur P im w (Instr.lookup t m (.string kb) comma) av := by
  have hu := u_map ht
  have hs := u_str hk
  have hkey : IsKey .string (.string kb) := trivial
  cases hlook : lookS kb.data.toList es with
  | none => rw [hlook] at h; cases h
  | some r =>
    rw [hlook] at h
    rcases look_list (im := im) ms.toList es 0 (by simpa using hl) (fun j m x hj hx => hr j m x (by simpa using hj) hx) r hlook with ⟨rfl, hf⟩ | ⟨v, j, u, rfl, hf, hv⟩
    · simp only [foundA] at h
      rw [Option.map_eq_some_iff] at h
      obtain ⟨z, hz, h⟩ := h
      have hz1 : (zeroValue e).run P w = .ok z w := by
        simp only [zeroV, Option.bind_eq_some_iff] at hz
        obtain ⟨i, hi, hiz⟩ := hz
        simp [zeroValue, typeInfo, hi, hiz]
      refine ⟨if comma then .tuple #[z, .bool false] else z, ?_, ?_⟩
      · rcases hm with ⟨rfl, rfl⟩ | ⟨r, clock, rfl, hb⟩
        · simp [Instr.lookup, run_underlying hu, run_checkKey hs hkey, run_findKey hs hf, hz1]
        · simp [Instr.lookup, run_underlying hu, MapKept.run_getObj_map hb, run_checkKey hs hkey, run_findKey hs hf, hz1]
      · subst h
        cases comma
        · exact .s z
        · refine .tup _ _ rfl (fun k c v hc hv => ?_)
          match k with
          | 0 => simp at hc hv; subst hc hv; exact .s z
          | 1 => simp at hc hv; subst hc hv; exact .s _
          | k + 2 => simp at hc
    · simp only [foundA] at h
      cases h
      refine ⟨if comma then .tuple #[u, .bool true] else u, ?_, ?_⟩
      · rcases hm with ⟨rfl, rfl⟩ | ⟨r, clock, rfl, hb⟩
        · simp [Instr.lookup, run_underlying hu, run_checkKey hs hkey, run_findKey hs hf]
        · simp [Instr.lookup, run_underlying hu, MapKept.run_getObj_map hb, run_checkKey hs hkey, run_findKey hs hf]
      · cases comma
        · exact hv
        · refine .tup _ _ rfl (fun k c v' hc hv' => ?_)
          match k with
          | 0 => simp at hc hv'; subst hc hv'; exact hv
          | 1 => simp at hc hv'; subst hc hv'; exact .s _
          | k + 2 => simp at hc
end
end Go.Proofs.YtjhnabdcmfjeoaaGreatDoor.Ab
/- Maps that are owned, going over a text, lists that are made empty; what is owned becomes read-only. Own work; a plain theory over any program. -/
set_option linter.unusedVariables false
set_option linter.unusedSimpArgs false
namespace Go.Proofs.YtjhnabdcmfjeoaaGreatDoor.Ab
open Go Go.MapKept

section
variable {P : Program} {im : Im} {w : World}

theorem lookupA_sound {H : AHeap} {t : TypeId} {m k av : AV} {u v : Value} {comma : Bool} (h : lookupA P H t m k comma = some av) (hm : Rep im m u) (hk : Rep im k v) (himr : Imr im w) (hH : ∀ x ∈ H, ResOk im w x.2) :
    Pur P im w (Instr.lookup t u v comma) av := by
  unfold lookupA at h
  split at h
  · rename_i kt e b ht
    split at h
    · rename_i hkt
      have := sInv hk
      subst this
      split at h
      · rename_i es
        cases hm with
        | mpr _ b' ms clock h1 h2 h3 h4 =>
          exact run_lookup ht hkt (.inr ⟨_, _, rfl, himr.m _ _ h1⟩) h2 (fun j m x hj hx => ⟨h3 j m x hj hx, h4 j m x hj hx⟩) h
      · cases sInv hm
        exact run_lookup (es := []) ht hkt (.inl ⟨rfl, rfl⟩) rfl (fun j m x hj _ => by simp at hj) h
      · rename_i r
        cases sInv hm
        obtain ⟨es, hf, h⟩ := Option.bind_eq_some_iff.1 h
        obtain ⟨l, hl⟩ := findMp_mem hf
        obtain ⟨ms, clock, h1, h2, h3, h4⟩ := hH _ hl
        exact run_lookup ht hkt (.inr ⟨_, _, rfl, h1⟩) h2 (fun j m x hj hx => by
          obtain ⟨k, c⟩ := x
          exact ⟨(h3 j m k c hj hx).1, (h3 j m k c hj hx).2.1⟩) h
      · cases h
    · cases h
  · cases h

theorem makeMap_goes (himr : Imr im w) (t : TypeId) (l : Nat) : Goes P im w [] (Instr.makeMap t none) fun av H => ∃ b, av = .s (.map (some b)) ∧ H = [(l, .mp b [])] :=
  ⟨.map (some w.heap.size), im, w.alloc (.map #[] 0), _, _, by simp [Instr.makeMap], (Ok.alloc himr _).add l (.mp w.heap.size []) ⟨#[], 0, heap_new w _, rfl, fun i m k c hm _ => by simp at hm, im_none himr (Nat.le_refl _), imm_none himr (Nat.le_refl _)⟩
    (fun k hk => by cases hk; exact ⟨.inr (Nat.le_refl _), by simp [keys]⟩), .s _, _, rfl, rfl⟩

/-- The block of one thing that is owned is put anew. -/
theorem Ok.put {r r' : Res} {l l' : Nat} {b : Nat} (himr : Imr im w) (hk : r.key = some b) (hk' : r'.key = some b) (o o' : Obj) (hb : w.heap[b]? = some o) (hn : ∀ q, im b q = none) (hm : im.m b = none)
    (hr' : ResOk im { w with heap := w.heap.setIfInBounds b o' } r') : Ok (here im w [(l, r)]) im { w with heap := w.heap.setIfInBounds b o' } [(l', r')] where
  os := rfl
  tape := rfl
  output := rfl
  size := by simp [here]
  frame := fun k hk1 hk2 => by
    have hne : k ≠ b := fun e => hk2 (by subst e; simp [here, keys, hk])
    exact ⟨(heap_set (w := w) hb).2 k hne, fun _ => rfl, rfl⟩
  le := Le.refl _
  imr := ⟨fun k q v hv => by
    have hne : k ≠ b := fun e => by subst e; rw [hn] at hv; cases hv
    obtain ⟨a1, a2⟩ := himr.c k q v hv
    refine ⟨?_, a2⟩
    simp only [World.cell?, (heap_set (w := w) hb).2 k hne] at a1 ⊢
    exact a1, fun k x hx => by
    have hne : k ≠ b := fun e => by subst e; rw [hm] at hx; cases hx
    exact ((heap_set (w := w) hb).2 k hne).trans (himr.m k x hx)⟩
  own := fun x hx => by simp at hx; subst hx; exact hr'
  fresh := fun k hk1 => by
    obtain ⟨x, hx, hxk⟩ := mem_keys.1 hk1
    simp at hx; subst hx
    rw [hk'] at hxk; cases hxk
    exact .inl (by simp [here, keys, hk])
  nodup := by simp [keys, hk']

/-- A key that is not there is put into a map that is owned. -/
theorem mapPut_goes {t kt e : TypeId} {b : Nat} {es : List (Value × AV)} {kb : ByteArray} {x : AV} {u : Value} (himr : Imr im w) (l : Nat) (hr : ResOk im w (.mp b es)) (ht : (tyI P t).kind = .map kt e) (hk : (tyI P kt).kind = .str)
    (hx : Rep im x u) (h : lookS kb.data.toList es = some none) :
    ∃ w', (Instr.mapUpdate t (.map (some b)) (.string kb) u).run P w = .ok () w' ∧ Ok (here im w [(l, .mp b es)]) im w' [(l, .mp b (es ++ [(.string kb, x)]))] := by
  obtain ⟨ms, clock, h1, h2, h3, h4, h5⟩ := hr
  have hkey : IsKey .string (.string kb) := trivial
  have hs := u_str hk
  rcases look_list (im := im) ms.toList es 0 (by simpa using h2) (fun j m x hj hx => by
      obtain ⟨k, c⟩ := x
      exact ⟨(h3 j m k c (by simpa using hj) hx).1, (h3 j m k c (by simpa using hj) hx).2.1⟩) _ h with ⟨_, hf⟩ | ⟨v, j, u', e1, _⟩
  · refine ⟨{ w with heap := w.heap.setIfInBounds b (.map (ms.push { key := .string kb, val := u, born := clock }) (clock + 1)) }, ?_, Ok.put himr rfl rfl _ _ h1 h4 h5 ⟨_, _, (heap_set (w := w) h1).1, by simp [h2], fun i m k c hm hc => ?_, h4, h5⟩⟩
    · simp [Instr.mapUpdate, run_underlying (u_map ht), MapKept.run_getObj_map h1, run_checkKey hs hkey, run_findKey hs hf, run_setObj_map _ h1]
    · rw [Array.getElem?_push] at hm
      split at hm
      · rename_i hi
        cases hm
        rw [h2] at hi; subst hi
        simp at hc
        obtain ⟨rfl, rfl⟩ := hc
        exact ⟨rfl, hx, Nat.lt_succ_self _⟩
      · rename_i hi
        have hlt : i < ms.size := (Array.getElem?_eq_some_iff.1 hm).1
        rw [List.getElem?_append_left (by omega)] at hc
        obtain ⟨a1, a2, a3⟩ := h3 i m k c hm hc
        exact ⟨a1, a2, Nat.lt_succ_of_lt a3⟩
  · cases e1

/-! #### over a text -/
theorem range_goes {t : TypeId} {s : ByteArray} (himr : Imr im w) (l : Nat) (ht : (tyI P t).kind = .str) : Goes P im w [] (Instr.range t (.string s)) fun av H => ∃ b, av = .ptr l b 0 ∧ H = [(l, .iter b s 0)] :=
  ⟨.pointer (some ⟨w.heap.size, 0, none⟩), im, w.alloc (.stringIter s 0), _, _, by simp [Instr.range, run_underlying (u_str ht)], (Ok.alloc himr _).add l (.iter w.heap.size s 0) ⟨heap_new w _, im_none himr (Nat.le_refl _), imm_none himr (Nat.le_refl _)⟩
    (fun k hk => by cases hk; exact ⟨.inr (Nat.le_refl _), by simp [keys]⟩), .ptr .., _, rfl, rfl⟩

/-- What 'next' over a text hands back, and where it stands behind it. -/
def nextA (s : ByteArray) (pos : Nat) : AV × Nat :=
  if pos < s.size then (.tup [.s (.bool true), .s (.int .i64 pos), .s (.int .i32 (Utf8.decode s pos).1)], pos + (Utf8.decode s pos).2) else (.tup [.s (.bool false)], pos)

theorem Ok.one (himr : Imr im w) (l : Nat) (r : Res) (hr : ResOk im w r) : Ok (here im w [(l, r)]) im w [(l, r)] :=
  ⟨rfl, rfl, rfl, Nat.le_refl _, fun _ _ _ => ⟨rfl, fun _ => rfl, rfl⟩, Le.refl _, himr, fun x hx => by simp at hx; subst hx; exact hr, fun k hk => .inl hk, by cases e : r.key <;> simp [keys, e]⟩

theorem next_goes {ty : TypeId} {b pos : Nat} {s : ByteArray} (himr : Imr im w) (l : Nat) (hr : ResOk im w (.iter b s pos)) :
    Goes P im w [(l, .iter b s pos)] (Instr.next (.pointer (some ⟨b, 0, none⟩)) true ty) fun av H => av = (nextA s pos).1 ∧ H = [(l, .iter b s (nextA s pos).2)] := by
  obtain ⟨h1, h2, h3⟩ := hr
  have hget : (getObj b).run P w = .ok (.stringIter s pos) w := by simp [getObj, Sem.run, h1]
  have hset : ∀ o, (setObj b o).run P w = .ok () { w with heap := w.heap.setIfInBounds b o } := fun o => by simp [setObj, Sem.run, h1]
  have e1 : (nextA s pos).1 = if pos < s.size then .tup [.s (.bool true), .s (.int .i64 pos), .s (.int .i32 (Utf8.decode s pos).1)] else .tup [.s (.bool false)] := by unfold nextA; split <;> rfl
  have e2 : (nextA s pos).2 = if pos < s.size then pos + (Utf8.decode s pos).2 else pos := by unfold nextA; split <;> rfl
  rw [e1, e2]
  by_cases hp : pos < s.size
  · rw [if_pos hp, if_pos hp]
    refine ⟨.tuple #[.bool true, goInt pos, .int .i32 (Utf8.decode s pos).1], im, { w with heap := w.heap.setIfInBounds b (.stringIter s (pos + (Utf8.decode s pos).2)) }, _, _, ?_, Ok.put (r' := .iter b s (pos + (Utf8.decode s pos).2)) himr rfl rfl _ _ h1 h2 h3 ⟨(heap_set (w := w) h1).1, h2, h3⟩, ?_, rfl, rfl⟩
    · simp only [Instr.next, Sem.run_bind, hget, Result.andThen_ok, hp, if_true, hset, Sem.run_pure]
    · exact .tup [.s (.bool true), .s (.int .i64 pos), .s (.int .i32 (Utf8.decode s pos).1)] _ rfl (fun i c v hc hv => by
        match i with
        | 0 => simp at hc hv; subst hc hv; exact .s _
        | 1 => simp at hc hv; subst hc hv; exact .s _
        | 2 => simp at hc hv; subst hc hv; exact .s _
        | i + 3 => simp at hc)
  · rw [if_neg hp, if_neg hp]
    exact ⟨.tuple #[.bool false], im, w, _, _, by simp [Instr.next, hget, hp], Ok.one himr l _ ⟨h1, h2, h3⟩, .tup [.s (.bool false)] _ rfl (fun i c v hc hv => by
        match i with
        | 0 => simp at hc hv; subst hc hv; exact .s _
        | i + 1 => simp at hc), rfl, rfl⟩

/-! #### a list that is made empty -/
theorem makeEmpty_goes {t e : TypeId} {kl kc : IntKind} {c : Int} (himr : Imr im w) (d : Nat) (ht : (tyI P t).kind = .slice e) (hpos : 0 < (tyI P e).size) (hz : (tyI P e).zero.length = (tyI P e).size) (h0 : 0 ≤ c)
    (hb : ((tyI P e).bytes : Int) * c ≤ 281474976710656) (h63 : c ≤ 9223372036854775807) :
    Goes P im w [] (Instr.makeSlice t (.int kl 0) (.int kc c)) fun av H => ∃ q, av = .lst (tyI P e).size [] (some (d, q)) ∧ H = [(d, .own e (tyI P e).size 0 q)] := by
  obtain ⟨z, _, hzc, i, hi, hiz⟩ := zero_run (P := P) (t := e) (by omega) w
  have hsz : (tyI P e).size = i.size := by simp [tyI, Program.cellsOf, hi]
  have hby : (tyI P e).bytes = i.bytes := by simp [tyI, Program.bytesOf, hi]
  have hr := run_make (P := P) w t e i z (u_slice ht) hi hiz kl kc 0 c (Int.le_refl _) h0 (by rw [← hby]; exact hb) h63
  refine ⟨_, im, _, .lst (tyI P e).size [] (some (d, .tip w.heap.size c.toNat)), _, hr, (Ok.alloc himr _).add d (.own e (tyI P e).size 0 (.tip w.heap.size c.toNat)) ⟨_, heap_new w _, by rw [size_madeCells, hsz], Nat.zero_le _, by simp only [maxLen]; omega, fun o _ => im_none himr (Nat.le_refl _) o⟩
    (fun k hk => by cases hk; exact ⟨.inr (Nat.le_refl _), by simp [keys]⟩), ?_, _, rfl, rfl⟩
  exact .lst _ [] _ w.heap.size 0 c.toNat (fun _ => undef) (fun l q hq => by cases hq; exact ⟨rfl, rfl⟩) (Nat.zero_le _) (by simp) (by simp) (by simp)

/-! #### what is owned becomes read-only -/
theorem Ok.freezeMap {B : Base} {H : AHeap} {l b : Nat} {es : List (Value × AV)} (h : Ok B im w ((l, .mp b es) :: H)) : ∃ im', Le im im' ∧ Ok B im' w H ∧ Rep im' (.mpr es) (.map (some b)) := by
  obtain ⟨ms, clock, h1, h2, h3, h4, h5⟩ := h.own (l, .mp b es) (by simp)
  have hle : Le im ⟨im.c, fun k => if k = b then some (ms, clock) else im.m k⟩ := ⟨fun _ _ _ h => h, fun k x hx => by
    show (if k = b then _ else _) = _
    split
    · subst_vars; rw [h5] at hx; cases hx
    · exact hx⟩
  have hfr := h.fresh b (by simp [keys, Res.key])
  have hnd := h.nodup
  simp only [keys, List.filterMap_cons, Res.key, List.nodup_cons] at hnd
  refine ⟨_, hle, ⟨h.os, h.tape, h.output, h.size, fun k hk hkK => ?_, h.le.trans hle, ⟨h.imr.c, fun k x hx => ?_⟩, fun x hx => (h.own x (List.mem_cons_of_mem _ hx)).move hle fun k hk => ⟨rfl, fun _ => rfl, ?_⟩, fun k hk => h.fresh k (by simp only [keys, List.filterMap_cons, Res.key]; exact List.mem_cons_of_mem _ hk), hnd.2⟩, ?_⟩
  · obtain ⟨a1, a2, a3⟩ := h.frame k hk hkK
    refine ⟨a1, a2, ?_⟩
    show (if k = b then _ else _) = _
    rw [if_neg (fun e => by subst e; rcases hfr with hf | hf; exact hkK hf; omega)]
    exact a3
  · change (if k = b then some (ms, clock) else im.m k) = some x at hx
    split at hx
    · subst_vars; cases hx; exact h1
    · exact h.imr.m k x hx
  · show (if k = b then _ else _) = _
    rw [if_neg (fun e => hnd.1 (by subst e; exact mem_keys.2 ⟨x, hx, hk⟩))]
  · exact .mpr es b ms clock (by simp) h2 (fun i m x hm hx => (h3 i m x.1 x.2 hm hx).1) (fun i m x hm hx => (h3 i m x.1 x.2 hm hx).2.1.mono hle)

theorem Ok.freezeBox {B : Base} {H : AHeap} {l b : Nat} {T : TypeId} {cs cs' : List AV} (h : Ok B im w ((l, .box b T cs) :: H)) (hl : cs'.length = cs.length)
    (hv : ∀ (im' : Im) (i : Nat) (c c' : AV) (v : Value), Le im im' → cs[i]? = some c → cs'[i]? = some c' → Rep im' c v → Rep im' c' v) : ∃ im', Le im im' ∧ Ok B im' w H ∧ Rep im' (.rp cs') (.pointer (some ⟨b, 0, none⟩)) := by
  obtain ⟨vs, h1, h2, h3, h4⟩ := h.own (l, .box b T cs) (by simp)
  have hnd := h.nodup
  simp only [keys, List.filterMap_cons, Res.key, List.nodup_cons] at hnd
  have hget : ∀ (i : Nat) (v : Value), vs[i]? = some v → ∃ c, cs[i]? = some c := fun i v hi => by
    have hlt : i < cs.length := by rw [← h2]; exact (Array.getElem?_eq_some_iff.1 hi).1
    exact ⟨cs[i], by simp [hlt]⟩
  have hok := (h.sub (List.sublist_cons_self _ H)).protect b vs T (0, 0) h1 (fun i v hi => by
    obtain ⟨c, hc⟩ := hget i v hi
    exact (h3 i c v hc hi).2) h4 hnd.1 (h.fresh b (by simp [keys, Res.key]))
  have hle : Le im (Ab.protect im b vs) := protect_le h4
  refine ⟨_, hle, hok, .rp _ _ 0 (fun i => vs.getD i undef) (fun i c hi => ?_) (fun i c' hi => ?_)⟩
  · have hlt : i < vs.size := by rw [h2, ← hl]; exact (List.getElem?_eq_some_iff.1 hi).1
    simp only [Ab.protect, Nat.zero_add, if_true, hlt]
    simp [hlt]
  · have hlt : i < vs.size := by rw [h2, ← hl]; exact (List.getElem?_eq_some_iff.1 hi).1
    have hg : vs[i]? = some (vs.getD i undef) := by simp [hlt]
    obtain ⟨c, hc⟩ := hget i _ hg
    exact hv _ i c c' _ hle hc hi ((h3 i c _ hc hg).1.mono hle)
end
end Go.Proofs.YtjhnabdcmfjeoaaGreatDoor.Ab
/- The contract of a call, the conditions of an operation and of code, and that they suffice. Own work; a plain theory over any program. -/
set_option linter.unusedVariables false
set_option linter.unusedSimpArgs false
namespace Go.Proofs.YtjhnabdcmfjeoaaGreatDoor.Ab
open Go

def RepL (im : Im) (args : List AV) (vs : List Value) : Prop := args.length = vs.length ∧ ∀ (i : Nat) (c : AV) (v : Value), args[i]? = some c → vs[i]? = some v → Rep im c v

/-- Function f, handed what reads as args over the heap H, hands back what R tells, with the heap that R tells; what is not of H stays. 'gl': what is known of package-level variables. -/
def CallsA (P : Program) (gl : Nat → AV) (f : FuncId) (args : List AV) (H : AHeap) (R : AV → AHeap → Prop) : Prop :=
  ∀ (im : Im) (w : World) (vs : List Value), RepL im args vs → Ok (here im w H) im w H → RepG im gl →
    Calls P f vs.toArray w fun e w' => ∃ v im' av H', e = .returned v ∧ Ok (here im w H) im' w' H' ∧ Rep im' av v ∧ R av H'

theorem CallsA.mono {P : Program} {gl : Nat → AV} {f : FuncId} {args : List AV} {H : AHeap} {R R' : AV → AHeap → Prop} (h : CallsA P gl f args H R) (hr : ∀ av H', R av H' → R' av H') : CallsA P gl f args H R' :=
  fun im w vs h1 h2 h3 => (h im w vs h1 h2 h3).mono fun _ _ ⟨v, im', av, H', a, b, c, d⟩ => ⟨v, im', av, H', a, b, c, hr _ _ d⟩

/-- What a call is not handed stays beside it. -/
theorem CallsA.frame {P : Program} {gl : Nat → AV} {f : FuncId} {args : List AV} {H F HF : AHeap} {R : AV → AHeap → Prop} (h : CallsA P gl f args H R) (hp : HF.Perm (H ++ F)) :
    CallsA P gl f args HF fun av H' => ∃ H1, H' = H1 ++ F ∧ R av H1 := by
  intro im w vs h1 h2 h3
  have h2' : Ok (here im w HF) im w (H ++ F) := h2.perm hp
  refine (h im w vs h1 (Ok.refl ⟨h2'.os, h2'.tape, h2'.output, h2'.size, h2'.frame, h2'.le, h2'.imr, fun x hx => h2'.own x (List.mem_append_left _ hx), fun k hk => h2'.fresh k (by rw [keys_append]; exact List.mem_append_left _ hk), by
    have := h2'.nodup; rw [keys_append, List.nodup_append] at this; exact this.1⟩) h3).mono ?_
  rintro e w' ⟨v, im', av, H1, he, hok, hrep, hR⟩
  exact ⟨v, im', av, H1 ++ F, he, h2'.step hok, hrep, H1, rfl, hR⟩

structure Cx where
  P : Program
  gl : Nat → AV
  N : Nat
  mu : List Nat

abbrev Env := Nat → AV

def erase (l : Nat) (H : AHeap) : AHeap := H.filter fun x => !(x.1 == l)

def ownOf (sz : Nat) (H : AHeap) : AV → Option (Option (Nat × Own × List AV))
  | .s (.slice none 0 0) => some none
  | .lst sz' es (some (l, q)) => if sz' = sz then some (some (l, q, es)) else none
  | _ => none

/-- What 'append(x, y)' asks and gives. -/
def appendVC (C : Cx) (d : Nat) (t tx : TypeId) (x y : AV) (E : Env) (H : AHeap) (K : Env → AHeap → Prop) : Prop :=
  match (tyI C.P t).kind with
  | .slice e => 0 < (tyI C.P e).size ∧ (tyI C.P e).zero.length = (tyI C.P e).size ∧ d < C.N ∧
    (if isStrV y = true then isStrK (tyI C.P tx).kind = true else isSlice (tyI C.P tx).kind = true) ∧
    match srcOf (tyI C.P e).size y, ownOf (tyI C.P e).size H x with
    | some ys, some none => ys.length * (tyI C.P e).bytes ≤ 140737488355328 ∧ ys.length ≤ 9223372036854775807 ∧ ∀ q, K (upd E d (.lst (tyI C.P e).size ys (some (d, q)))) ((d, .own e (tyI C.P e).size ys.length q) :: erase d H)
    | some ys, some (some (l, q, es)) => (match find l H with | some (.own e' sz' n' q') => e' = e ∧ sz' = (tyI C.P e).size ∧ n' = es.length ∧ q' = q | _ => False) ∧
      (es.length + ys.length) * (tyI C.P e).bytes ≤ 140737488355328 ∧ es.length + ys.length ≤ 9223372036854775807 ∧
      ∀ q', K (upd E d (.lst (tyI C.P e).size (es ++ ys) (some (d, q')))) ((d, .own e (tyI C.P e).size (es.length + ys.length) q') :: erase d (erase l H))
    | _, _ => False
  | _ => False

def strToBytes (P : Program) (s d : TypeId) (x : AV) : Option AV :=
  match (tyI P s).kind, (tyI P d).kind, x with
  | .str, .slice e, .s (.string b) => match (tyI P e).kind with
    | .int .u8 => if (tyI P e).size = 1 ∧ b.size ≤ 9223372036854775807 then some (.lst 1 (bytesA b.data.toList) none) else none
    | _ => none
  | _, _, _ => none

def isAppend : Builtin → Bool
  | .append => true
  | _ => false

def callVC (C : Cx) (dst : Option Nat) (c : Call) (E : Env) (H : AHeap) (K : Env → AHeap → Prop) : Prop :=
  match c.callee with
  | .builtin b => if isAppend b = true then (match dst, c.args.toList, c.argTypes.toList with
      | some d, [x, y], [t, tx] => appendVC C d t tx (evA C.gl E x) (evA C.gl E y) E H K
      | _, _, _ => False) else
    match dst, builtinVal C.P b (c.args.toList.map (evA C.gl E)) c.argTypes.toList with
    | some d, some v => d < C.N ∧ K (upd E d v) H
    | _, _ => False
  | .value x => match evA C.gl E x with
    | .s (.func (.func f) fi ca) => fi.size = 0 ∧ ca.size = 0 ∧ ((C.P.funcs[f]?).map fun fn => (fn.name == "runtime.NumGoroutine", fn.body.isSome)) = some (false, true) ∧
      CallsA C.P C.gl f (c.args.toList.map (evA C.gl E)) H fun av H' => match dst with | some d => d < C.N ∧ K (upd E d av) H' | none => K E H'
    | .fn (.func f) fi ca => fi.length = 0 ∧ ((C.P.funcs[f]?).map fun fn => (fn.name == "runtime.NumGoroutine", fn.body.isSome)) = some (false, true) ∧
      CallsA C.P C.gl f (c.args.toList.map (evA C.gl E) ++ ca) H fun av H' => match dst with | some d => d < C.N ∧ K (upd E d av) H' | none => K E H'
    | _ => False
  | _ => False

def isNilL : Operand → Bool
  | .const (.slice none 0 0) => true
  | _ => false

def findMpL (b : Nat) : AHeap → Option (Nat × List (Value × AV))
  | [] => none
  | (l, .mp b' es) :: H => if b' = b then some (l, es) else findMpL b H
  | _ :: H => findMpL b H

def eqOp : BinOp → Option (Bool → Bool)
  | .eql => some fun t => t
  | .neq => some fun t => !t
  | _ => none

/-- A list against nil: a list that holds nothing may be nil or not. -/
def nilVC (C : Cx) (d : Nat) (op : BinOp) (k : TK) (x : AV) (r : Option AV) (E : Env) (H : AHeap) (K : Env → AHeap → Prop) : Prop :=
  match k, x, eqOp op with
  | .slice _, .lst _ es _, some f => d < C.N ∧ ∀ t, (t = true → es = []) → K (upd E d (.s (.bool (f t)))) H
  | _, _, _ => match r with | some v => d < C.N ∧ K (upd E d v) H | none => False

def mapVC (C : Cx) (t : TypeId) (m k x : AV) (E : Env) (H : AHeap) (K : Env → AHeap → Prop) : Prop :=
  match (tyI C.P t).kind, m, k with
  | .map kt _, .s (.map (some b)), .s (.string kb) => (tyI C.P kt).kind = .str ∧ match findMpL b H with
    | some (l, es) => lookS kb.data.toList es = some none ∧ K E ((l, .mp b (es ++ [(.string kb, x)])) :: erase l H)
    | none => False
  | _, _, _ => False

def nextVC (C : Cx) (d : Nat) (it : AV) (E : Env) (H : AHeap) (K : Env → AHeap → Prop) : Prop :=
  match it with
  | .ptr l b 0 => match find l H with
    | some (.iter b' s pos) => b' = b ∧ d < C.N ∧ K (upd E d (nextA s pos).1) ((l, .iter b s (nextA s pos).2) :: erase l H)
    | _ => False
  | _ => False

def rangeVC (C : Cx) (d : Nat) (k : TK) (x : AV) (E : Env) (H : AHeap) (K : Env → AHeap → Prop) : Prop :=
  match k, x with
  | .str, .s (.string s) => d < C.N ∧ ∀ b, K (upd E d (.ptr d b 0)) ((d, .iter b s 0) :: erase d H)
  | _, _ => False

def makeVC (C : Cx) (d : Nat) (k : TK) (l c : AV) (E : Env) (H : AHeap) (K : Env → AHeap → Prop) : Prop :=
  match k, l, c with
  | .slice e, .s (.int _ n), .s (.int _ c) => d < C.N ∧ n = 0 ∧ 0 < (tyI C.P e).size ∧ (tyI C.P e).zero.length = (tyI C.P e).size ∧ 0 ≤ c ∧ ((tyI C.P e).bytes : Int) * c ≤ 281474976710656 ∧ c ≤ 9223372036854775807 ∧
      ∀ q, K (upd E d (.lst (tyI C.P e).size [] (some (d, q)))) ((d, .own e (tyI C.P e).size 0 q) :: erase d H)
  | _, _, _ => False

/-- What an operation asks, and what it gives to what follows. -/
def opVC (C : Cx) (o : Oper) (E : Env) (H : AHeap) (K : Env → AHeap → Prop) : Prop :=
  match o.op with
  | .alloc t => match o.dst with
    | some d => d < C.N ∧ (tyI C.P t).zero.length ≠ 0 ∧ (tyI C.P t).zero.all Value.oneCell' = true ∧ ∀ b, K (upd E d (.ptr d b 0)) ((d, .box b t ((tyI C.P t).zero.map .s)) :: erase d H)
    | none => False
  | .box t x => match o.dst with
    | some d => d < C.N ∧ (evA C.gl E x).ones = true ∧ (if C.mu.contains d = true then ∀ b, K (upd E d (.ptr d b 0)) ((d, .box b t (evA C.gl E x).cells) :: erase d H) else K (upd E d (.rp (evA C.gl E x).cells)) H)
    | none => False
  | .buildSlice t n parts => match o.dst, bslA C.P t n (parts.toList.map fun (i, x) => (i, evA C.gl E x)) with
    | some d, some (e, es) => d < C.N ∧ n ≤ maxLen ∧ (if C.mu.contains d = true then ∀ q, K (upd E d (.lst (tyI C.P e).size es (some (d, q)))) ((d, .own e (tyI C.P e).size es.length q) :: erase d H) else K (upd E d (.lst (tyI C.P e).size es none)) H)
    | _, _ => False
  | .store t p x => match evA C.gl E p with
    | .ptr l b off => match find l H with
      | some (.box b' T cs) => b' = b ∧ (evA C.gl E x).ones = true ∧ (evA C.gl E x).cells.length = (tyI C.P t).size ∧ 0 < (tyI C.P t).size ∧ off + (evA C.gl E x).cells.length ≤ cs.length ∧ o.dst = none ∧
          K E ((l, .box b T (putCells cs off (evA C.gl E x).cells)) :: erase l H)
      | _ => False
    | _ => False
  | .call c => callVC C o.dst c E H K
  | .convert s d x => match o.dst, opVal C.P C.gl E H (.convert s d x), strToBytes C.P s d (evA C.gl E x) with
    | some k, some v, _ => k < C.N ∧ K (upd E k v) H
    | some k, none, some v => k < C.N ∧ K (upd E k v) H
    | _, _, _ => False
  | .binOp op t x y yt => match o.dst with
    | some d => if isNilL y = true then nilVC C d op (tyI C.P t).kind (evA C.gl E x) (opVal C.P C.gl E H (.binOp op t x y yt)) E H K else
      match opVal C.P C.gl E H (.binOp op t x y yt) with | some v => d < C.N ∧ K (upd E d v) H | none => False
    | none => False
  | .makeMap t r => match o.dst, r with
    | some d, none => d < C.N ∧ ∀ b, K (upd E d (.s (.map (some b)))) ((d, .mp b []) :: erase d H)
    | _, _ => False
  | .lookup t x k comma => match o.dst, lookupA C.P H t (evA C.gl E x) (evA C.gl E k) comma with
    | some d, some v => d < C.N ∧ K (upd E d v) H
    | _, _ => False
  | .mapUpdate t m k x => o.dst = none ∧ mapVC C t (evA C.gl E m) (evA C.gl E k) (evA C.gl E x) E H K
  | .range t x => match o.dst with
    | some d => rangeVC C d (tyI C.P t).kind (evA C.gl E x) E H K
    | none => False
  | .next it isStr => match o.dst with
    | some d => isStr = true ∧ nextVC C d (evA C.gl E it) E H K
    | none => False
  | .makeSlice t l c => match o.dst with
    | some d => makeVC C d (tyI C.P t).kind (evA C.gl E l) (evA C.gl E c) E H K
    | none => False
  | op => match o.dst, opVal C.P C.gl E H op with
    | some d, some v => d < C.N ∧ K (upd E d v) H
    | _, _ => False

def undefA : AV := .s undef

/-- What operations in a row ask. -/
def opsVC (C : Cx) (ops : Array Oper) : List Oper → Env → AHeap → (Env → AHeap → Prop) → Prop
  | [], E, H, K => K E H
  | o :: rest, E, H, K => match o.guard with
    | none => opVC C o E H fun E' H' => opsVC C ops rest E' H' K
    | some (j, want) => match (ops[j]?).bind (·.dst), o.dst with
      | some g, some d => match E g with
        | .s (.bool x) => (x = want → opVC C o (upd E g (.s (.bool want))) H fun E' H' => opsVC C ops rest E' H' K) ∧ (x = !want → d < C.N ∧ opsVC C ops rest (upd (upd E g (.s (.bool (!want)))) d undefA) H K)
        | .s (.tuple _) => d < C.N ∧ opsVC C ops rest (upd E d undefA) H K
        | _ => False
      | _, _ => False

structure St (C : Cx) (B : Base) (im : Im) (E : Env) (H : AHeap) (a : Act) (w : World) : Prop where
  ok : Ok B im w H
  env : RepE im E a
  glo : RepG im C.gl
  defers : a.defers = []
  size : a.tmps.size = C.N

/-- The state fits some abstract state that K tells. -/
def Fits (C : Cx) (B : Base) (K : Env → AHeap → Prop) (a : Act) (w : World) : Prop := ∃ im E H, St C B im E H a w ∧ K E H

/-- Code on abstract states. -/
def W (C : Cx) (c : Code) (E : Env) (H : AHeap) (Q : Exit → Env → AHeap → Prop) : Prop :=
  ∀ (B : Base) (im : Im) (a : Act) (w : World), St C B im E H a w → c.wp C.P (fun e a' w' => Fits C B (Q e) a' w') a w

def qThen (next : Env → AHeap → Prop) (Q : Exit → Env → AHeap → Prop) : Exit → Env → AHeap → Prop
  | .normal => next
  | e => Q e
def qBlock (id : Nat) (Q : Exit → Env → AHeap → Prop) : Exit → Env → AHeap → Prop
  | .exit id' => if id' = id then Q .normal else Q (.exit id')
  | e => Q e

/-- What code asks: loops (and regions that draw their order) are left as they stand. -/
def vc (C : Cx) : Code → Env → AHeap → (Exit → Env → AHeap → Prop) → Prop
  | .skip, E, H, Q => Q .normal E H
  | .region id ops draw, E, H, Q => if draw = true then W C (.region id ops true) E H Q else opsVC C ops ops.toList E H (Q .normal)
  | .seq x y, E, H, Q => vc C x E H (qThen (fun E' H' => vc C y E' H' Q) Q)
  | .cond c x y, E, H, Q => match evA C.gl E c with
    | .s (.bool t) => (t = true → vc C x E H Q) ∧ (t = false → vc C y E H Q)
    | _ => False
  | .block id c, E, H, Q => vc C c E H (qBlock id Q)
  | .exit id, E, H, Q => Q (.exit id) E H
  | .ret, E, H, Q => Q .ret E H
  | c, E, H, Q => W C c E H Q
end Go.Proofs.YtjhnabdcmfjeoaaGreatDoor.Ab
