/- Abstract values, what they say of memory, and the frame of a call. Own work of this session; a plain theory over any program. -/
import Derived.Orders
import Derived.Laws.Append
import Derived.Laws.Entries
import Derived.WalkKit
import Derived.Laws.StructEq
import Derived.Laws.BytesArg
import Derived.Laws.Strings
import Derived.IntWalk
import Derived.Laws.CopyRow
import Derived.Laws.AppendOwn
set_option linter.unusedVariables false
namespace Go.Proofs.YtjhnabdcmfjeoaaGreatDoor.Ab
open Go

/-- What is protected: cells, and maps (their entries and their clock). -/
structure Im where
  c : Nat → Nat → Option Value
  m : Nat → Option (Array MapEntry × Nat)

instance : CoeFun Im (fun _ => Nat → Nat → Option Value) := ⟨Im.c⟩

structure Le (im im' : Im) : Prop where
  c : ∀ b o v, im b o = some v → im' b o = some v
  m : ∀ b x, im.m b = some x → im'.m b = some x

theorem Le.refl (im : Im) : Le im im := ⟨fun _ _ _ h => h, fun _ _ h => h⟩
theorem Le.trans {a b c : Im} (h : Le a b) (k : Le b c) : Le a c := ⟨fun _ _ _ x => k.c _ _ _ (h.c _ _ _ x), fun _ _ x => k.m _ _ (h.m _ _ x)⟩

inductive Own where
  | nil
  | tip (b cap : Nat)

inductive AV where
  | s (v : Value)
  | lst (sz : Nat) (es : List AV) (o : Option (Nat × Own))
  | rp (cs : List AV)
  | ptr (l b off : Nat)
  | mpr (es : List (Value × AV))
  | agg (cs : List AV)
  | tup (vs : List AV)
  | fn (f : Fn) (first captured : List AV)
  | any

def AV.cells : AV → List AV
  | .agg cs => cs
  | x => [x]

inductive Rep (im : Im) : AV → Value → Prop
  | s (v : Value) : Rep im (.s v) v
  | any (v : Value) : Rep im .any v
  | agg (cs : List AV) (vs : Array Value) : vs.size = cs.length → (∀ (i : Nat) (c : AV) (v : Value), cs[i]? = some c → vs[i]? = some v → Rep im c v) → Rep im (.agg cs) (.agg vs)
  | tup (cs : List AV) (vs : Array Value) : vs.size = cs.length → (∀ (i : Nat) (c : AV) (v : Value), cs[i]? = some c → vs[i]? = some v → Rep im c v) → Rep im (.tup cs) (.tuple vs)
  | rp (cs : List AV) (b o : Nat) (f : Nat → Value) : (∀ (i : Nat) (c : AV), cs[i]? = some c → im b (o + i) = some (f i)) → (∀ (i : Nat) (c : AV), cs[i]? = some c → Rep im c (f i)) →
      Rep im (.rp cs) (.pointer (some ⟨b, o, none⟩))
  | ptr (l b off : Nat) : Rep im (.ptr l b off) (.pointer (some ⟨b, off, none⟩))
  | mpr (es : List (Value × AV)) (b : Nat) (ms : Array MapEntry) (clock : Nat) : im.m b = some (ms, clock) → ms.size = es.length →
      (∀ (i : Nat) (m : MapEntry) (x : Value × AV), ms[i]? = some m → es[i]? = some x → m.key = x.1) →
      (∀ (i : Nat) (m : MapEntry) (x : Value × AV), ms[i]? = some m → es[i]? = some x → Rep im x.2 m.val) → Rep im (.mpr es) (.map (some b))
  | lnil (sz : Nat) (o : Option (Nat × Own)) : (∀ l b cap, o ≠ some (l, .tip b cap)) → Rep im (.lst sz [] o) (.slice none 0 0)
  | lz (sz : Nat) (a : Addr) : Rep im (.lst sz [] none) (.slice (some a) 0 0)
  | lst (sz : Nat) (es : List AV) (o : Option (Nat × Own)) (b off cap : Nat) (f : Nat → Value) :
      (∀ l q, o = some (l, q) → q = .tip b cap ∧ off = 0) → es.length ≤ cap → (∀ e ∈ es, e.cells.length = sz) →
      (∀ (i j : Nat) (e c : AV), es[i]? = some e → e.cells[j]? = some c → im b (off + (i * sz + j)) = some (f (i * sz + j))) →
      (∀ (i j : Nat) (e c : AV), es[i]? = some e → e.cells[j]? = some c → Rep im c (f (i * sz + j))) →
      Rep im (.lst sz es o) (.slice (some ⟨b, off, none⟩) es.length cap)
  | fn (f : Fn) (first captured : List AV) (fs cs : Array Value) : fs.size = first.length → cs.size = captured.length →
      (∀ (i : Nat) (c : AV) (v : Value), first[i]? = some c → fs[i]? = some v → Rep im c v) →
      (∀ (i : Nat) (c : AV) (v : Value), captured[i]? = some c → cs[i]? = some v → Rep im c v) → Rep im (.fn f first captured) (.func f fs cs)

theorem Rep.mono {im im' : Im} (h : Le im im') {av : AV} {v : Value} (r : Rep im av v) : Rep im' av v := by
  induction r with
  | s v => exact .s v
  | any v => exact .any v
  | agg cs vs hl _ ih => exact .agg cs vs hl ih
  | tup cs vs hl _ ih => exact .tup cs vs hl ih
  | rp cs b o f h1 _ ih => exact .rp cs b o f (fun i c hc => h.c _ _ _ (h1 i c hc)) ih
  | ptr l b off => exact .ptr l b off
  | mpr es b ms clock h1 h2 h3 _ ih => exact .mpr es b ms clock (h.m _ _ h1) h2 h3 ih
  | lnil sz o ho => exact .lnil sz o ho
  | lz sz a => exact .lz sz a
  | lst sz es o b off cap f ho hc hz h1 _ ih => exact .lst sz es o b off cap f ho hc hz (fun i j e c he hec => h.c _ _ _ (h1 i j e c he hec)) ih
  | fn f first captured fs cs hf hc _ _ i1 i2 => exact .fn f first captured fs cs hf hc i1 i2

/-- Ownership dropped from the outermost list. -/
theorem Rep.drop {im : Im} {sz : Nat} {es : List AV} {o : Option (Nat × Own)} {v : Value} (r : Rep im (.lst sz es o) v) : Rep im (.lst sz es none) v := by
  cases r with
  | lnil _ _ ho => exact .lnil sz none (by simp)
  | lz => exact .lz _ _
  | lst _ _ _ b off cap f ho hc hz h1 h2 => exact .lst sz es none b off cap f (by simp) hc hz h1 h2

inductive Res where
  | box (b : Nat) (T : TypeId) (cs : List AV)
  | own (T : TypeId) (sz n : Nat) (o : Own)
  | mp (b : Nat) (es : List (Value × AV))
  | iter (b : Nat) (s : ByteArray) (pos : Nat)

abbrev AHeap := List (Nat × Res)

def Res.key : Res → Option Nat
  | .box b _ _ => some b
  | .own _ _ _ (.tip b _) => some b
  | .own _ _ _ .nil => none
  | .mp b _ => some b
  | .iter b _ _ => some b

def keys (H : AHeap) : List Nat := H.filterMap (·.2.key)

def ResOk (im : Im) (w : World) : Res → Prop
  | .box b T cs => ∃ vs : Array Value, w.heap[b]? = some (.cells vs T (0, 0)) ∧ vs.size = cs.length ∧
      (∀ (i : Nat) (c : AV) (v : Value), cs[i]? = some c → vs[i]? = some v → Rep im c v ∧ v.oneCell' = true) ∧ ∀ o, im b o = none
  | .own T sz n (.tip b cap) => ∃ c : Array Value, w.heap[b]? = some (.cells c T (0, 0)) ∧ c.size = cap * sz ∧ n ≤ cap ∧ cap ≤ maxLen ∧ ∀ o, n * sz ≤ o → im b o = none
  | .own _ _ _ .nil => True
  | .mp b es => ∃ (ms : Array MapEntry) (clock : Nat), w.heap[b]? = some (.map ms clock) ∧ ms.size = es.length ∧
      (∀ (i : Nat) (m : MapEntry) (k : Value) (c : AV), ms[i]? = some m → es[i]? = some (k, c) → m.key = k ∧ Rep im c m.val ∧ m.born < clock) ∧ (∀ o, im b o = none) ∧ im.m b = none
  | .iter b s pos => w.heap[b]? = some (.stringIter s pos) ∧ (∀ o, im b o = none) ∧ im.m b = none

theorem ResOk.move {im im' : Im} {w w' : World} {r : Res} (h : ResOk im w r) (hle : Le im im')
    (hb : ∀ b, r.key = some b → w'.heap[b]? = w.heap[b]? ∧ (∀ o, im' b o = im b o) ∧ im'.m b = im.m b) : ResOk im' w' r := by
  cases r with
  | box b T cs =>
    obtain ⟨vs, h1, h2, h3, h4⟩ := h
    obtain ⟨e1, e2, e3⟩ := hb b rfl
    exact ⟨vs, e1.trans h1, h2, fun i c v hc hv => ⟨(h3 i c v hc hv).1.mono hle, (h3 i c v hc hv).2⟩, fun o => (e2 o).trans (h4 o)⟩
  | own T sz n o =>
    cases o with
    | nil => trivial
    | tip b cap =>
      obtain ⟨c, h1, h2, h3, h4, h5⟩ := h
      obtain ⟨e1, e2, e3⟩ := hb b rfl
      exact ⟨c, e1.trans h1, h2, h3, h4, fun o ho => (e2 o).trans (h5 o ho)⟩
  | mp b es =>
    obtain ⟨ms, clock, h1, h2, h3, h4⟩ := h
    obtain ⟨e1, e2, e3⟩ := hb b rfl
    exact ⟨ms, clock, e1.trans h1, h2, fun i m k c hm hc => ⟨(h3 i m k c hm hc).1, (h3 i m k c hm hc).2.1.mono hle, (h3 i m k c hm hc).2.2⟩, fun o => (e2 o).trans (h4.1 o), e3.trans h4.2⟩
  | iter b s pos =>
    obtain ⟨h1, h2, h3⟩ := h
    obtain ⟨e1, e2, e3⟩ := hb b rfl
    exact ⟨e1.trans h1, fun o => (e2 o).trans (h2 o), e3.trans h3⟩

structure Imr (im : Im) (w : World) : Prop where
  c : ∀ b o v, im b o = some v → w.cell? ⟨b, o, none⟩ = some v ∧ v.oneCell' = true
  m : ∀ b x, im.m b = some x → w.heap[b]? = some (.map x.1 x.2)

structure Base where
  w : World
  im : Im
  K : List Nat

structure Ok (B : Base) (im : Im) (w : World) (H : AHeap) : Prop where
  os : w.os = B.w.os
  tape : w.tape = B.w.tape
  output : w.output = B.w.output
  size : B.w.heap.size ≤ w.heap.size
  frame : ∀ b, b < B.w.heap.size → b ∉ B.K → w.heap[b]? = B.w.heap[b]? ∧ (∀ o, im b o = B.im b o) ∧ im.m b = B.im.m b
  le : Le B.im im
  imr : Imr im w
  own : ∀ x ∈ H, ResOk im w x.2
  fresh : ∀ k ∈ Ab.keys H, k ∈ B.K ∨ B.w.heap.size ≤ k
  nodup : (Ab.keys H).Nodup

theorem ResOk.lt {im : Im} {w : World} {r : Res} (h : ResOk im w r) {k : Nat} (hk : r.key = some k) : k < w.heap.size := by
  cases r with
  | box b T cs => obtain ⟨vs, h1, _⟩ := h; cases hk; exact (Array.getElem?_eq_some_iff.1 h1).1
  | own T sz n o =>
    cases o with
    | nil => cases hk
    | tip b cap => obtain ⟨vs, h1, _⟩ := h; cases hk; exact (Array.getElem?_eq_some_iff.1 h1).1
  | mp b es => obtain ⟨ms, clock, h1, _⟩ := h; cases hk; exact (Array.getElem?_eq_some_iff.1 h1).1
  | iter b s pos => obtain ⟨h1, _⟩ := h; cases hk; exact (Array.getElem?_eq_some_iff.1 h1).1

theorem mem_keys {H : AHeap} {k : Nat} : k ∈ keys H ↔ ∃ x ∈ H, x.2.key = some k := by simp [keys, List.mem_filterMap]
theorem keys_append (H F : AHeap) : keys (H ++ F) = keys H ++ keys F := by simp [keys]

theorem Ok.key_lt {B : Base} {im : Im} {w : World} {H : AHeap} (h : Ok B im w H) {k : Nat} (hk : k ∈ Ab.keys H) : k < w.heap.size := by
  obtain ⟨x, hx, hxk⟩ := mem_keys.1 hk
  exact (h.own x hx).lt hxk

theorem im_lt {im : Im} {w : World} (h : Imr im w) {b o : Nat} {v : Value} (hv : im b o = some v) : b < w.heap.size :=
  World.block_lt_of_cell? w _ (h.c b o v hv).1

theorem im_none {im : Im} {w : World} (h : Imr im w) {b : Nat} (hb : w.heap.size ≤ b) (o : Nat) : im b o = none := by
  cases e : im b o with
  | none => rfl
  | some v => exact absurd (im_lt h e) (by omega)

theorem imm_none {im : Im} {w : World} (h : Imr im w) {b : Nat} (hb : w.heap.size ≤ b) : im.m b = none := by
  cases e : im.m b with
  | none => rfl
  | some v =>
    have := (Array.getElem?_eq_some_iff.1 (h.m b v e)).1
    omega

/-- The base that stands here. -/
def here (im : Im) (w : World) (H : AHeap) : Base := ⟨w, im, keys H⟩

theorem Ok.refl {B : Base} {im : Im} {w : World} {H : AHeap} (h : Ok B im w H) : Ok (here im w H) im w H where
  os := rfl
  tape := rfl
  output := rfl
  size := Nat.le_refl _
  frame := fun _ _ _ => ⟨rfl, fun _ => rfl, rfl⟩
  le := Le.refl _
  imr := h.imr
  own := h.own
  fresh := fun k hk => .inl hk
  nodup := h.nodup

theorem Ok.perm {B : Base} {im : Im} {w : World} {H H' : AHeap} (h : Ok B im w H) (p : H.Perm H') : Ok B im w H' where
  os := h.os
  tape := h.tape
  output := h.output
  size := h.size
  frame := h.frame
  le := h.le
  imr := h.imr
  own := fun x hx => h.own x (p.mem_iff.2 hx)
  fresh := fun k hk => h.fresh k ((List.Perm.filterMap _ p).mem_iff.2 hk)
  nodup := (List.Perm.filterMap _ p).nodup_iff.1 h.nodup

/-- What is dropped is forgotten. -/
theorem Ok.sub {B : Base} {im : Im} {w : World} {H H' : AHeap} (h : Ok B im w H) (p : H'.Sublist H) : Ok B im w H' where
  os := h.os
  tape := h.tape
  output := h.output
  size := h.size
  frame := h.frame
  le := h.le
  imr := h.imr
  own := fun x hx => h.own x (p.subset hx)
  fresh := fun k hk => h.fresh k ((List.Sublist.filterMap _ p).subset hk)
  nodup := (List.Sublist.filterMap _ p).nodup h.nodup

/-- A part of the heap goes through a step of its own; the other part stays. -/
theorem Ok.step {B : Base} {im im' : Im} {w w' : World} {H F H' : AHeap} (h : Ok B im w (H ++ F)) (k : Ok (here im w H) im' w' H') : Ok B im' w' (H' ++ F) where
  os := k.os.trans h.os
  tape := k.tape.trans h.tape
  output := k.output.trans h.output
  size := Nat.le_trans h.size k.size
  frame := fun b hb hn => by
    have hs : b < w.heap.size := Nat.lt_of_lt_of_le hb h.size
    have hk : b ∉ Ab.keys H := fun hm => by
      rcases h.fresh b (by rw [keys_append]; exact List.mem_append_left _ hm) with h' | h'
      · exact hn h'
      · omega
    obtain ⟨e1, e2, e3⟩ := k.frame b hs hk
    obtain ⟨f1, f2, f3⟩ := h.frame b hb hn
    exact ⟨e1.trans f1, fun o => (e2 o).trans (f2 o), e3.trans f3⟩
  le := h.le.trans k.le
  imr := k.imr
  own := fun x hx => by
    rcases List.mem_append.1 hx with hx | hx
    · exact k.own x hx
    · refine (h.own x (List.mem_append_right _ hx)).move k.le fun b hb => ?_
      have hlt := (h.own x (List.mem_append_right _ hx)).lt hb
      have hn : b ∉ Ab.keys H := fun hm => by
        have hd := h.nodup
        rw [keys_append, List.nodup_append] at hd
        exact hd.2.2 b hm b (mem_keys.2 ⟨x, hx, hb⟩) rfl
      exact k.frame b hlt hn
  fresh := fun b hb => by
    rw [keys_append] at hb
    rcases List.mem_append.1 hb with hb | hb
    · rcases k.fresh b hb with h' | h'
      · exact h.fresh b (by rw [keys_append]; exact List.mem_append_left _ h')
      · exact .inr (Nat.le_trans h.size h')
    · exact h.fresh b (by rw [keys_append]; exact List.mem_append_right _ hb)
  nodup := by
    have hd := h.nodup
    rw [keys_append, List.nodup_append] at hd
    rw [keys_append, List.nodup_append]
    refine ⟨k.nodup, hd.2.1, fun a ha b hb hab => ?_⟩
    subst hab
    rcases k.fresh a ha with h' | h'
    · exact hd.2.2 a h' a hb rfl
    · have := h.key_lt (k := a) (by rw [keys_append]; exact List.mem_append_right _ hb)
      have h'' : w.heap.size ≤ a := h'
      omega

/-- Nothing of the heap is touched. -/
theorem Ok.stepNone {B : Base} {im im' : Im} {w w' : World} {F H' : AHeap} (h : Ok B im w F) (k : Ok (here im w []) im' w' H') : Ok B im' w' (H' ++ F) :=
  Ok.step (H := []) h k

/-- Only the draws have moved. -/
theorem Ok.draw {B : Base} {im : Im} {w w' : World} {H : AHeap} (h : Ok B im w H) (h1 : w'.os = w.os) (h2 : w'.tape = w.tape) (h3 : w'.output = w.output) (h4 : w'.heap = w.heap) : Ok B im w' H where
  os := h1.trans h.os
  tape := h2.trans h.tape
  output := h3.trans h.output
  size := by rw [h4]; exact h.size
  frame := by rw [h4]; exact h.frame
  le := h.le
  imr := ⟨fun b o v hv => by
    have := h.imr.c b o v hv
    simp only [World.cell?, h4] at this ⊢
    exact this, fun b x hx => by rw [h4]; exact h.imr.m b x hx⟩
  own := fun x hx => (h.own x hx).move (Le.refl _) fun b hb => ⟨by rw [h4], fun _ => rfl, rfl⟩
  fresh := h.fresh
  nodup := h.nodup

theorem heap_new (w : World) (o : Obj) : (w.alloc o).heap[w.heap.size]? = some o := by
  show (w.heap.push o)[w.heap.size]? = _
  simp
theorem heap_old (w : World) (o : Obj) {b : Nat} (h : b < w.heap.size) : (w.alloc o).heap[b]? = w.heap[b]? := by
  show (w.heap.push o)[b]? = _
  rw [Array.getElem?_push, if_neg (by omega)]

/-- A new block is made, as yet without a word of it. -/
theorem Ok.alloc {im : Im} {w : World} (h : Imr im w) (o : Obj) : Ok (here im w []) im (w.alloc o) [] where
  os := rfl
  tape := rfl
  output := rfl
  size := by simp [here]
  frame := fun b hb _ => ⟨heap_old w o hb, fun _ => rfl, rfl⟩
  le := Le.refl _
  imr := ⟨fun b p v hv => by
    obtain ⟨h1, h2⟩ := h.c b p v hv
    exact ⟨by rw [World.cell?_alloc_lt w o _ (im_lt h hv)]; exact h1, h2⟩, fun b x hx => by
    have := h.m b x hx
    rw [heap_old w o (Array.getElem?_eq_some_iff.1 this).1]; exact this⟩
  own := by simp
  fresh := by simp [Ab.keys]
  nodup := by simp [Ab.keys]

/-- A resource at a fresh block is laid to the heap. -/
theorem Ok.add {B : Base} {im : Im} {w : World} {H : AHeap} (h : Ok B im w H) (l : Nat) (r : Res) (hr : ResOk im w r)
    (hf : ∀ k, r.key = some k → (k ∈ B.K ∨ B.w.heap.size ≤ k) ∧ k ∉ Ab.keys H) : Ok B im w ((l, r) :: H) where
  os := h.os
  tape := h.tape
  output := h.output
  size := h.size
  frame := h.frame
  le := h.le
  imr := h.imr
  own := fun x hx => by
    rcases List.mem_cons.1 hx with rfl | hx
    · exact hr
    · exact h.own x hx
  fresh := fun k hk => by
    obtain ⟨x, hx, hxk⟩ := mem_keys.1 hk
    rcases List.mem_cons.1 hx with rfl | hx
    · exact (hf k hxk).1
    · exact h.fresh k (mem_keys.2 ⟨x, hx, hxk⟩)
  nodup := by
    cases e : r.key with
    | none => simpa [Ab.keys, e] using h.nodup
    | some k => simpa [Ab.keys, e] using ⟨by simpa [Ab.keys] using (hf k e).2, by simpa [Ab.keys] using h.nodup⟩

/-- The cells of a block that nobody owns are protected from here on. -/
def protect (im : Im) (b : Nat) (vs : Array Value) : Im := ⟨fun b' o => if b' = b then (if o < vs.size then vs[o]? else none) else im b' o, im.m⟩

theorem protect_le {im : Im} {b : Nat} {vs : Array Value} (hn : ∀ o, im b o = none) : Le im (protect im b vs) := by
  refine ⟨fun b' o v h => ?_, fun _ _ h => h⟩
  simp only [protect]
  split
  · subst_vars; simp [hn] at h
  · exact h

theorem Ok.protect {B : Base} {im : Im} {w : World} {H : AHeap} (h : Ok B im w H) (b : Nat) (vs : Array Value) (T : TypeId) (fz : Nat × Nat) (hb : w.heap[b]? = some (.cells vs T fz))
    (h1 : ∀ (i : Nat) (v : Value), vs[i]? = some v → v.oneCell' = true) (hn : ∀ o, im b o = none) (hk : b ∉ Ab.keys H) (hB : b ∈ B.K ∨ B.w.heap.size ≤ b) :
    Ok B (Ab.protect im b vs) w H where
  os := h.os
  tape := h.tape
  output := h.output
  size := h.size
  frame := fun c hc hcK => by
    obtain ⟨e1, e2, e3⟩ := h.frame c hc hcK
    refine ⟨e1, fun o => ?_, e3⟩
    have hne : c ≠ b := fun e => by
      subst e
      rcases hB with hB | hB
      · exact hcK hB
      · omega
    simp only [Ab.protect, hne, if_false]
    exact e2 o
  le := h.le.trans (protect_le hn)
  imr := ⟨fun c o v hv => by
    simp only [Ab.protect] at hv
    split at hv
    · rename_i hc
      subst hc
      split at hv
      · exact ⟨by simp [World.cell?, hb, hv], h1 o v hv⟩
      · cases hv
    · exact h.imr.c c o v hv, h.imr.m⟩
  own := fun x hx => (h.own x hx).move (protect_le hn) fun c hc => ⟨rfl, fun o => by
    have hne : c ≠ b := fun e => hk (mem_keys.2 ⟨x, hx, by rw [← e]; exact hc⟩)
    simp [Ab.protect, hne], rfl⟩
  fresh := h.fresh
  nodup := h.nodup

end Go.Proofs.YtjhnabdcmfjeoaaGreatDoor.Ab
/- Operations that only compute: what they come to on abstract values, and that the machine does so. Own work; a plain theory over any program. -/
set_option linter.unusedVariables false
set_option linter.unusedSimpArgs false
namespace Go.Proofs.YtjhnabdcmfjeoaaGreatDoor.Ab
open Go

/-! ### Types in short -/
inductive TK where
  | int (k : IntKind) | bool | str | slice (e : TypeId) | struct | ptr (e : TypeId) | iface | map (k e : TypeId) | func | array (n : Nat) (e : TypeId) | other

def tkOf : Option TypeDesc → TK
  | some (.int k) => .int k
  | some .bool => .bool
  | some .string => .str
  | some (.slice e) => .slice e
  | some (.struct _) => .struct
  | some (.pointer e) => .ptr e
  | some (.interface _) => .iface
  | some (.map k e) => .map k e
  | some (.func ..) => .func
  | some (.array n e) => .array n e
  | _ => .other

structure TyI where
  kind : TK
  size : Nat
  bytes : Nat
  zero : List Value
  offs : List Nat
  fts : List TypeId

def fieldsOf (P : Program) (t : TypeId) : List Field := match P.underlying t with | some (.struct fs) => fs.toList | _ => []

/-- What is asked of a type; 'size 0' where it is none that this theory takes. -/
def tyI (P : Program) (t : TypeId) : TyI :=
  { kind := tkOf (P.underlying t), size := P.cellsOf t, bytes := P.bytesOf t, zero := (((P.info? t).bind (·.zero)).map (·.cells.toList)).getD [],
    offs := if (fieldsOf P t).all (fun f => decide (0 < P.cellsOf f.type)) then (fieldsOf P t).map (·.offset) else [], fts := (fieldsOf P t).map (·.type) }

def TyI.agg (i : TyI) : Bool := match i.kind with | .struct => true | .array _ _ => true | _ => false

section
variable {P : Program} {t : TypeId}
theorem u_int {k : IntKind} (h : (tyI P t).kind = .int k) : P.underlying t = some (.int k) := by
  simp only [tyI] at h; cases e : P.underlying t with
  | none => simp [e, tkOf] at h
  | some d => cases d <;> simp_all [tkOf]
theorem u_bool (h : (tyI P t).kind = .bool) : P.underlying t = some .bool := by
  simp only [tyI] at h; cases e : P.underlying t with
  | none => simp [e, tkOf] at h
  | some d => cases d <;> simp_all [tkOf]
theorem u_str (h : (tyI P t).kind = .str) : P.underlying t = some .string := by
  simp only [tyI] at h; cases e : P.underlying t with
  | none => simp [e, tkOf] at h
  | some d => cases d <;> simp_all [tkOf]
theorem u_slice {e : TypeId} (h : (tyI P t).kind = .slice e) : P.underlying t = some (.slice e) := by
  simp only [tyI] at h; cases e' : P.underlying t with
  | none => simp [e', tkOf] at h
  | some d => cases d <;> simp_all [tkOf]
theorem u_ptr {e : TypeId} (h : (tyI P t).kind = .ptr e) : P.underlying t = some (.pointer e) := by
  simp only [tyI] at h; cases e' : P.underlying t with
  | none => simp [e', tkOf] at h
  | some d => cases d <;> simp_all [tkOf]
theorem u_array {n : Nat} {e : TypeId} (h : (tyI P t).kind = .array n e) : P.underlying t = some (.array n e) := by
  simp only [tyI] at h; cases e' : P.underlying t with
  | none => simp [e', tkOf] at h
  | some d => cases d <;> simp_all [tkOf]
theorem u_map {k e : TypeId} (h : (tyI P t).kind = .map k e) : P.underlying t = some (.map k e) := by
  simp only [tyI] at h; cases e' : P.underlying t with
  | none => simp [e', tkOf] at h
  | some d => cases d <;> simp_all [tkOf]
theorem u_struct (h : (tyI P t).kind = .struct) : ∃ fs : Array Field, P.underlying t = some (.struct fs) ∧ fieldsOf P t = fs.toList := by
  simp only [tyI] at h; cases e' : P.underlying t with
  | none => simp [e', tkOf] at h
  | some d => cases d <;> simp_all [tkOf, fieldsOf]
theorem u_iface (h : (tyI P t).kind = .iface) : ∃ ms, P.underlying t = some (.interface ms) := by
  simp only [tyI] at h; cases e' : P.underlying t with
  | none => simp [e', tkOf] at h
  | some d => cases d <;> simp_all [tkOf]
end

theorem info_of_underlying {P : Program} {t : TypeId} {d : TypeDesc} (h : P.underlying t = some d) : ∃ i, P.info? t = some i := by
  unfold Program.underlying at h
  cases e : P.info? t with
  | none => simp [e] at h
  | some i => exact ⟨i, rfl⟩
theorem run_sizeOf {P : Program} {t : TypeId} {d : TypeDesc} (h : P.underlying t = some d) (w : World) : (sizeOf t).run P w = .ok (P.cellsOf t) w := by
  obtain ⟨i, hi⟩ := info_of_underlying h
  simp [sizeOf, typeInfo, hi, Program.cellsOf]
theorem run_sizeOf' {P : Program} {t : TypeId} (h : 0 < P.cellsOf t) (w : World) : (sizeOf t).run P w = .ok (P.cellsOf t) w := by
  cases e : P.info? t with
  | none => simp [Program.cellsOf, e] at h
  | some i => simp [sizeOf, typeInfo, e, Program.cellsOf]

/-! ### Environments -/
def upd (E : Nat → AV) (d : Nat) (v : AV) : Nat → AV := fun i => if i = d then v else E i

def evA (gl : Nat → AV) (E : Nat → AV) : Operand → AV
  | .tmp t => E t
  | .const v => .s v
  | .global g => gl g
  | .func f => .s (.func (.func f) #[] #[])

def RepE (im : Im) (E : Nat → AV) (a : Act) : Prop := ∀ i, Rep im (E i) (a.tmps.getD i undef)
def RepG (im : Im) (gl : Nat → AV) : Prop := ∀ g, Rep im (gl g) (.pointer (some ⟨g, 0, none⟩))

theorem rep_ev {im : Im} {gl E : Nat → AV} {a : Act} (hE : RepE im E a) (hg : RepG im gl) (x : Operand) : Rep im (evA gl E x) (a.eval x) := by
  cases x with
  | tmp t => exact hE t
  | const v => exact .s v
  | global g => exact hg g
  | func f => exact .s _

theorem RepE.mono {im im' : Im} (h : Le im im') {E : Nat → AV} {a : Act} (r : RepE im E a) : RepE im' E a := fun i => (r i).mono h
theorem RepG.mono {im im' : Im} (h : Le im im') {gl : Nat → AV} (r : RepG im gl) : RepG im' gl := fun i => (r i).mono h

theorem RepE.put {im : Im} {E : Nat → AV} {a : Act} (r : RepE im E a) {d : Nat} {av : AV} {v : Value} (hd : d < a.tmps.size) (hv : Rep im av v) : RepE im (upd E d av) (a.put (some d) v) := by
  intro i
  simp only [Act.put, upd, Array.getD_eq_getD_getElem?, Array.getElem?_setIfInBounds]
  by_cases h : i = d
  · subst h; simp [hd]; exact hv
  · simp only [h, if_false, Ne.symm h]
    simpa [Array.getD_eq_getD_getElem?] using r i

theorem size_put (a : Act) (d : Option Tmp) (v : Value) : (a.put d v).tmps.size = a.tmps.size := by cases d <;> simp [Act.put]
theorem defers_put (a : Act) (d : Option Tmp) (v : Value) : (a.put d v).defers = a.defers := by cases d <;> rfl

/-! ### Texts as lists of bytes -/
def strV (l : List UInt8) : Value := .string ⟨l.toArray⟩
def byteA (b : UInt8) : AV := .s (.int .u8 b.toNat)
def bytesA (l : List UInt8) : List AV := l.map byteA
def unbyte : AV → UInt8
  | .s (.int .u8 n) => UInt8.ofNat n.toNat
  | _ => 0
def isByte : AV → Bool
  | .s (.int .u8 _) => true
  | _ => false
theorem unbyte_byteA (b : UInt8) : unbyte (byteA b) = b := by simp [unbyte, byteA]
theorem map_unbyte (l : List UInt8) : (bytesA l).map unbyte = l := by
  simp only [bytesA, List.map_map]
  conv => rhs; rw [← List.map_id l]
  exact List.map_congr_left fun b _ => unbyte_byteA b
theorem all_isByte (l : List UInt8) : (bytesA l).all isByte = true := by simp [bytesA, byteA, isByte]

/-! ### Operators on whole numbers, texts, truths -/
def intA (op : BinOp) (k : IntKind) (a b : Int) : Option AV :=
  match op with
  | .add => some (.s (.int k (k.wrap (a + b))))
  | .sub => some (.s (.int k (k.wrap (a - b))))
  | .mul => some (.s (.int k (k.wrap (a * b))))
  | .quo => if b = 0 then none else some (.s (.int k (k.wrap (a.tdiv b))))
  | .rem => if b = 0 then none else some (.s (.int k (a.tmod b)))
  | .and | .or | .xor | .andNot => some (.s (.int k (bits op k a b)))
  | .eql => some (.s (.bool (decide (a = b))))
  | .neq => some (.s (.bool (!decide (a = b))))
  | .lss => some (.s (.bool (decide (a < b))))
  | .leq => some (.s (.bool (decide (a ≤ b))))
  | .gtr => some (.s (.bool (decide (b < a))))
  | .geq => some (.s (.bool (decide (b ≤ a))))
  | _ => none

def shiftA (op : BinOp) (k : IntKind) (a b : Int) : Option AV :=
  if b < 0 then none else
  match op with
  | .shl => some (.s (.int k (k.wrap (a * 2 ^ min b.toNat k.bits))))
  | .shr => some (.s (.int k (a.fdiv (2 ^ min b.toNat k.bits))))
  | _ => none

def strA (op : BinOp) (a b : List UInt8) : Option AV :=
  match op with
  | .add => if a.length + b.length ≤ 9223372036854775807 then some (.s (strV (a ++ b))) else none
  | .eql => some (.s (.bool (decide (a = b))))
  | .neq => some (.s (.bool (!decide (a = b))))
  | .lss => some (.s (.bool (Op.bytesLess a b)))
  | .leq => some (.s (.bool (Op.bytesLess a b || decide (a = b))))
  | .gtr => some (.s (.bool (!(Op.bytesLess a b || decide (a = b)))))
  | .geq => some (.s (.bool (!Op.bytesLess a b)))
  | _ => none

def tobool (op : BinOp) (b : Bool) : Option AV :=
  match op with
  | .eql => some (.s (.bool b))
  | .neq => some (.s (.bool (!b)))
  | _ => none

/-- An interface value against nil ('cc': one of the two is written as a constant). -/
def ifaceEq (cc : Bool) : Value → Value → Option Bool
  | .nilIface, .nilIface => if cc then some true else none
  | .nilIface, .iface _ _ => some false
  | .iface _ _, .nilIface => some false
  | _, _ => none

def isConst : Operand → Bool
  | .const _ => true
  | _ => false

theorem toList_data (s : ByteArray) : s.toList = s.data.toList := ByteArray.toList_eq s

/-- A struct whose fields are whole numbers, texts and truths, none of them nameless, one behind the other: is compared cell by cell. -/
def plainStruct (P : Program) (t : TypeId) : Bool :=
  (match P.underlying t with | some (.struct _) => true | _ => false) && !P.stoodInHeld t && !P.eqGuardType P.depth t &&
  ((fieldsOf P t).zipIdx.all fun (f, i) => f.name != "_" && f.offset == i && (match (tyI P f.type).kind with | .int _ => true | .bool => true | .str => true | _ => false))

def fkinds (P : Program) (t : TypeId) : List TK := (fieldsOf P t).map fun f => (tyI P f.type).kind

def cellEq : TK → AV → AV → Option Bool
  | .int _, .s (.int k a), .s (.int k' b) => if k = k' then some (decide (a = b)) else none
  | .bool, .s (.bool a), .s (.bool b) => some (decide (a = b))
  | .str, .s (.string a), .s (.string b) => some (decide (a.data.toList = b.data.toList))
  | _, _, _ => none

def cellsEq : List TK → List AV → List AV → Option Bool
  | [], [], [] => some true
  | k :: ks, x :: xs, y :: ys => match cellEq k x y, cellsEq ks xs ys with
    | some p, some q => some (p && q)
    | _, _ => none
  | _, _, _ => none

/-- A pointer, or a list that holds something, against nil. -/
def nilEq (k : TK) : AV → AV → Option Bool
  | .rp _, .s (.pointer none) => match k with | .ptr _ => some false | _ => none
  | .ptr _ _ _, .s (.pointer none) => match k with | .ptr _ => some false | _ => none
  | .s (.pointer none), .s (.pointer none) => match k with | .ptr _ => some true | _ => none
  | .lst _ (_ :: _) _, .s (.slice none 0 0) => match k with | .slice _ => some false | _ => none
  | .s (.slice none 0 0), .s (.slice none 0 0) => match k with | .slice _ => some true | _ => none
  | _, _ => none

def binA (P : Program) (op : BinOp) (t : TypeId) (cc : Bool) (x y : AV) : Option AV :=
  match x, y with
  | .s (.int k a), .s (.int k' b) => match op with
    | .shl => shiftA .shl k a b
    | .shr => shiftA .shr k a b
    | _ => if k = k' then intA op k a b else none
  | .s (.string a), .s (.string b) => strA op a.data.toList b.data.toList
  | .s (.bool a), .s (.bool b) => match (tyI P t).kind with
    | .bool => tobool op (decide (a = b))
    | _ => none
  | .s u, .s v => match (tyI P t).kind with
    | .iface => (ifaceEq cc u v).bind (tobool op)
    | k => (nilEq k (.s u) (.s v)).bind (tobool op)
  | .agg cs, .agg ds => if plainStruct P t = true then (cellsEq (fkinds P t) cs ds).bind (tobool op) else none
  | x, y => (nilEq (tyI P t).kind x y).bind (tobool op)

def unA (op : UnOp) (x : AV) : Option AV :=
  match op, x with
  | .not, .s (.bool b) => some (.s (.bool (!b)))
  | .neg, .s (.int k n) => some (.s (.int k (k.wrap (0 - n))))
  | _, _ => none

def pickA (c a b : AV) : Option AV :=
  match c with
  | .s (.bool t) => some (if t = true then a else b)
  | _ => none

def find (l : Nat) : AHeap → Option Res
  | [] => none
  | x :: H => if x.1 = l then some x.2 else find l H

theorem find_mem {l : Nat} {H : AHeap} {r : Res} (h : find l H = some r) : (l, r) ∈ H := by
  induction H with
  | nil => cases h
  | cons x H ih =>
    simp only [find] at h
    split at h
    · rename_i e; cases h; subst e; exact List.mem_cons_self
    · exact List.mem_cons_of_mem _ (ih h)

def TyI.ok (i : TyI) : Bool := match i.kind with | .other => false | _ => true

def loadCs (i : TyI) (cs : List AV) : Option AV :=
  if i.agg = true then (if i.size ≤ cs.length then some (.agg (cs.take i.size)) else none) else if i.ok = true then cs.head? else none

def loadA (i : TyI) (H : AHeap) : AV → Option AV
  | .rp cs => loadCs i cs
  | .ptr l b off => match find l H with
    | some (.box b' _ cs) => if b = b' then loadCs i (cs.drop off) else none
    | _ => none
  | _ => none

def nilA : AV → Option AV
  | .rp cs => some (.rp cs)
  | .ptr l b off => some (.ptr l b off)
  | .fn (.func f) fi ca => some (.fn (.func f) fi ca)
  | .s (.func (.func f) fi ca) => some (.s (.func (.func f) fi ca))
  | .s (.pointer (some a)) => some (.s (.pointer (some a)))
  | _ => none

def convA (P : Program) (s d : TypeId) (x : AV) : Option AV :=
  match (tyI P s).kind, (tyI P d).kind, x with
  | .int _, .int k, .s (.int _ n) => some (.s (.int k (k.wrap n)))
  | .str, .str, .s (.string b) => some (.s (.string b))
  | .slice e, .str, .lst 1 es _ => match (tyI P e).kind with
    | .int .u8 => if es.all isByte = true then some (.s (strV (es.map unbyte))) else none
    | _ => none
  | .slice e, .str, .s (.slice none 0 0) => match (tyI P e).kind with
    | .int .u8 => some (.s (strV []))
    | _ => none
  | _, _, _ => none

def boundA (d : Int) : Option AV → Option Int
  | none => some d
  | some (.s (.int _ n)) => some n
  | _ => none

def sliceA (P : Program) (t : TypeId) (x : AV) (lo hi mx : Option AV) : Option AV :=
  match mx, (tyI P t).kind, x with
  | none, .str, .s (.string b) => match boundA 0 lo, boundA b.data.toList.length hi with
    | some l, some h => if 0 ≤ l ∧ l ≤ h ∧ h ≤ b.data.toList.length then some (.s (strV ((b.data.toList.take h.toNat).drop l.toNat))) else none
    | _, _ => none
  | none, .slice e, .lst sz es _ => match boundA 0 lo, boundA es.length hi with
    | some l, some h => if 0 ≤ l ∧ l ≤ h ∧ h ≤ es.length ∧ (tyI P e).size = sz ∧ 0 < sz then some (.lst sz ((es.take h.toNat).drop l.toNat) none) else none
    | _, _ => none
  | _, _, _ => none

def fieldAddrA (i : TyI) (f : Nat) : AV → Option AV
  | .rp cs => match i.kind, i.offs[f]? with | .struct, some o => some (.rp (cs.drop o)) | _, _ => none
  | .ptr l b off => match i.kind, i.offs[f]? with | .struct, some o => some (.ptr l b (off + o)) | _, _ => none
  | _ => none

def indexAddrA (P : Program) (t : TypeId) (x i : AV) : Option AV :=
  match (tyI P t).kind, x, i with
  | .slice e, .lst sz es _, .s (.int _ n) => if 0 ≤ n ∧ n < es.length ∧ (tyI P e).size = sz ∧ 0 < sz then some (.rp (es.getD n.toNat .any).cells) else none
  | _, _, _ => none

def indexA (P : Program) (t : TypeId) (x i : AV) : Option AV :=
  match (tyI P t).kind, x, i with
  | .str, .s (.string b), .s (.int _ n) => if 0 ≤ n ∧ n < b.data.toList.length then some (.s (.int .u8 ((b.data.toList.getD n.toNat 0).toNat))) else none
  | _, _, _ => none

def extractA (i : Nat) : AV → Option AV
  | .tup vs => vs[i]?
  | _ => none

def lenA (P : Program) (t : TypeId) : AV → Option AV
  | .lst _ es _ => match (tyI P t).kind with | .slice _ => some (.s (.int .i64 es.length)) | _ => none
  | .s (.string b) => match (tyI P t).kind with | .str => some (.s (.int .i64 b.data.toList.length)) | _ => none
  | .s (.slice none 0 0) => match (tyI P t).kind with | .slice _ => some (.s (.int .i64 0)) | _ => none
  | _ => none

def mkifaceA (P : Program) (t : TypeId) (x : AV) : Option AV :=
  match (tyI P t).kind with
  | .iface => none
  | .other => none
  | _ => match x with
    | .s v => some (.s (.iface t v))
    | .ptr _ b off => some (.s (.iface t (.pointer (some ⟨b, off, none⟩))))
    | _ => none

/-- May this value stand in cells? -/
def AV.one : AV → Bool
  | .s v => v.oneCell'
  | .lst .. => true
  | .rp .. => true
  | .ptr .. => true
  | .mpr .. => true
  | .fn .. => true
  | _ => false
def AV.ones (v : AV) : Bool := v.cells.all AV.one

def putCells (cs : List AV) (off : Nat) (vs : List AV) : List AV := cs.take off ++ vs ++ cs.drop (off + vs.length)

def fillA (P : Program) (i : TyI) : List AV → List (Nat × AV) → Option (List AV)
  | cs, [] => some cs
  | cs, (f, v) :: rest => match i.offs[f]?, i.fts[f]? with
    | some o, some ft => if v.ones = true ∧ v.cells.length = (tyI P ft).size ∧ o + v.cells.length ≤ cs.length then fillA P i (putCells cs o v.cells) rest else none
    | _, _ => none

def buildA (P : Program) (t : TypeId) (parts : List (Nat × AV)) : Option AV :=
  match (tyI P t).kind with
  | .struct => if (tyI P t).zero.length = 0 ∨ (tyI P t).offs.length = 0 then none else (fillA P (tyI P t) ((tyI P t).zero.map .s) parts).map .agg
  | _ => none

def isStrV : AV → Bool
  | .s (.string _) => true
  | _ => false
def isSlice : TK → Bool
  | .slice _ => true
  | _ => false
def isStrK : TK → Bool
  | .str => true
  | _ => false
theorem isSlice_inv {k : TK} (h : isSlice k = true) : ∃ e, k = .slice e := by cases k <;> simp_all [isSlice]
theorem isStrK_inv {k : TK} (h : isStrK k = true) : k = .str := by cases k <;> simp_all [isStrK]

def minA : AV → AV → Option AV
  | .s (.int k x), .s (.int _ y) => some (.s (.int k (if y < x then y else x)))
  | _, _ => none

def builtinVal (P : Program) (b : Builtin) (args : List AV) (ts : List TypeId) : Option AV :=
  match b, args, ts with
  | .len, [x], [t] => lenA P t x
  | .min, [x, y], _ => minA x y
  | _, _, _ => none

def callVal (P : Program) (gl E : Nat → AV) (c : Call) : Option AV :=
  match c.callee with
  | .builtin b => builtinVal P b (c.args.toList.map (evA gl E)) c.argTypes.toList
  | _ => none

def opVal (P : Program) (gl E : Nat → AV) (H : AHeap) (op : Op) : Option AV :=
  match op with
  | .move x => some (evA gl E x)
  | .assign x => some (evA gl E x)
  | .pick c a b => pickA (evA gl E c) (evA gl E a) (evA gl E b)
  | .load t p => loadA (tyI P t) H (evA gl E p)
  | .nilCheck x => nilA (evA gl E x)
  | .binOp op t x y _ => binA P op t (isConst x || isConst y) (evA gl E x) (evA gl E y)
  | .unOp op _ x => unA op (evA gl E x)
  | .convert s d x => convA P s d (evA gl E x)
  | .makeInterface t x => mkifaceA P t (evA gl E x)
  | .makeFunc f fi ca => some (.fn f (fi.toList.map (evA gl E)) (ca.toList.map (evA gl E)))
  | .slice t x lo hi mx => sliceA P t (evA gl E x) (lo.map (evA gl E)) (hi.map (evA gl E)) (mx.map (evA gl E))
  | .fieldAddr s x f => fieldAddrA (tyI P s) f (evA gl E x)
  | .indexAddr t x i => indexAddrA P t (evA gl E x) (evA gl E i)
  | .index t x i => indexA P t (evA gl E x) (evA gl E i)
  | .extract x i => extractA i (evA gl E x)
  | .build t parts => buildA P t (parts.toList.map fun (i, x) => (i, evA gl E x))
  | .call c => callVal P gl E c
  | _ => none
end Go.Proofs.YtjhnabdcmfjeoaaGreatDoor.Ab
/- The machine computes what opVal says. Own work; a plain theory over any program. -/
set_option linter.unusedVariables false
set_option linter.unusedSimpArgs false
namespace Go.Proofs.YtjhnabdcmfjeoaaGreatDoor.Ab
open Go

section
variable {P : Program} {im : Im} {w : World}

/-- A computation that comes to a value and leaves the world. -/
def Pur (P : Program) (im : Im) (w : World) (x : Sem Value) (av : AV) : Prop := ∃ v, x.run P w = .ok v w ∧ Rep im av v

theorem sInv {v u : Value} (h : Rep im (.s v) u) : u = v := by cases h; rfl

theorem pur_s {x : Sem Value} {v u : Value} (h : x.run P w = .ok v w) (e : v = u) : Pur P im w x (.s u) := ⟨v, h, by rw [e]; exact .s u⟩

theorem intA_sound {op : BinOp} {k : IntKind} {a b : Int} {av : AV} (t : TypeId) (h : intA op k a b = some av) (hs : op ≠ .shl) (hr : op ≠ .shr) : Pur P im w (binOp op t (.int k a) (.int k b)) av := by
  cases op with
  | add => cases h; exact pur_s (by rw [binOp_add]; rfl) rfl
  | sub => cases h; exact pur_s (by rw [binOp_sub]; rfl) rfl
  | mul => cases h; exact pur_s (by rw [binOp_mul]; rfl) rfl
  | quo => simp only [intA] at h; split at h; · cases h
           rename_i hb; cases h; exact pur_s (by rw [binOp_quo]; simp [Op.intDiv, hb]) rfl
  | rem => simp only [intA] at h; split at h; · cases h
           rename_i hb; cases h; exact pur_s (by rw [binOp_rem]; simp [Op.intDiv, hb]) rfl
  | and => cases h; exact pur_s (by rw [binOp_and]; rfl) rfl
  | or => cases h; exact pur_s (by rw [binOp_or]; rfl) rfl
  | xor => cases h; exact pur_s (by rw [binOp_xor]; rfl) rfl
  | andNot => cases h; exact pur_s (by rw [binOp_andNot]; rfl) rfl
  | eql => cases h; exact pur_s (by rw [binOp_eql]; rfl) rfl
  | neq => cases h; exact pur_s (by rw [binOp_neq]; rfl) (by congr 1)
  | lss => cases h; exact pur_s (by rw [binOp_lss]; rfl) rfl
  | leq => cases h; exact pur_s (by rw [binOp_leq]; rfl) rfl
  | gtr => cases h; exact pur_s (by rw [binOp_gtr]; rfl) rfl
  | geq => cases h; exact pur_s (by rw [binOp_geq]; rfl) rfl
  | shl => exact absurd rfl hs
  | shr => exact absurd rfl hr

theorem shiftA_sound {op : BinOp} {k k' : IntKind} {a b : Int} {av : AV} (h : shiftA op k a b = some av) : Pur P im w (Op.shift op k a k' b) av := by
  simp only [shiftA] at h
  split at h
  · cases h
  rename_i hb
  cases op <;> simp only [reduceCtorEq, Option.some.injEq] at h <;> (subst h; exact pur_s (by simp [Op.shift, hb]) rfl)

theorem beq_dec {l m : List UInt8} : (l == m) = decide (l = m) := by
  rw [Bool.eq_iff_iff]; simp

theorem strA_sound {op : BinOp} {a b : ByteArray} {av : AV} (h : strA op a.data.toList b.data.toList = some av) : Pur P im w (Op.stringOp op a b) av := by
  have e : (a.toList == b.toList) = decide (a.data.toList = b.data.toList) := by rw [toList_data, toList_data, beq_dec]
  cases op <;> simp only [strA, reduceCtorEq] at h
  case add =>
    split at h
    · rename_i hl
      cases h
      refine pur_s (v := .string (a ++ b)) ?_ ?_
      · have h1 : a.size = a.data.toList.length := rfl
        have h2 : b.size = b.data.toList.length := rfl
        have : ¬ (((a.size + b.size : Nat) : Int) > IntKind.i64.max) := by
          rw [IntKind.max_i64]
          omega
        simp only [Op.stringOp]
        rw [if_neg this]; rfl
      · simp only [strV]
        congr 1
    · cases h
  all_goals (cases h; exact pur_s (by simp only [Op.stringOp, e]; rfl) (by simp only [toList_data]))

theorem tobool_sound {op : BinOp} {b : Bool} {av : AV} {t : TypeId} {u v : Value} (h : tobool op b = some av)
    (hr : (Op.equal t u v).run P w = .ok b w) (h1 : op = .eql → binOp op t u v = (do pure (.bool (← Op.equal t u v)))) (h2 : op = .neq → binOp op t u v = (do pure (.bool (!(← Op.equal t u v))))) :
    Pur P im w (binOp op t u v) av := by
  cases op <;> simp only [tobool, reduceCtorEq, Option.some.injEq] at h
  case eql => subst h; rw [h1 rfl]; exact pur_s (by simp [hr]) rfl
  case neq => subst h; rw [h2 rfl]; exact pur_s (by simp [hr]) rfl

theorem equal_at (t : TypeId) (u v : Value) : Op.equal t u v = Op.equalIn (9999 + 1) t u v := rfl

theorem run_equalIn_iface {t : TypeId} (ht : (tyI P t).kind = .iface) {u v : Value} {cc b : Bool} (h : ifaceEq cc u v = some b) (d : Nat) : (Op.equalIn (d + 1) t u v).run P w = .ok b w := by
  obtain ⟨ms, hu⟩ := u_iface ht
  unfold ifaceEq at h
  split at h
  · split at h
    · cases h; simp [Op.equalIn, run_underlying hu]
    · cases h
  · cases h; simp [Op.equalIn, run_underlying hu]
  · cases h; simp [Op.equalIn, run_underlying hu]
  · cases h

theorem run_equal_iface {t : TypeId} (ht : (tyI P t).kind = .iface) {u v : Value} {cc b : Bool} (h : ifaceEq cc u v = some b) : (Op.equal t u v).run P w = .ok b w := by
  rw [equal_at]; exact run_equalIn_iface ht h _

theorem guard_iface {op : BinOp} {t : TypeId} {x y : Operand} {u v : Value} {b : Bool} (h : ifaceEq (isConst x || isConst y) u v = some b) : eqGuard op t x y u v = pure () := by
  unfold ifaceEq at h
  split at h
  · split at h
    · rename_i hc
      cases x <;> cases y <;> simp [isConst] at hc <;> first | exact eqGuard_nil_constL .. | exact eqGuard_nil_constR ..
    · cases h
  · exact eqGuard_nil_iface ..
  · exact eqGuard_at_iface ..
  · cases h

theorem equal_iface_eql {t : TypeId} {u v : Value} {cc b : Bool} (h : ifaceEq cc u v = some b) : binOp .eql t u v = (do pure (.bool (← Op.equal t u v))) := by
  unfold ifaceEq at h
  split at h <;> first | rfl | cases h
theorem equal_iface_neq {t : TypeId} {u v : Value} {cc b : Bool} (h : ifaceEq cc u v = some b) : binOp .neq t u v = (do pure (.bool (!(← Op.equal t u v)))) := by
  unfold ifaceEq at h
  split at h <;> first | rfl | cases h

/-! structs, cell by cell -/
theorem cellEq_sound {x y : AV} {u v : Value} {b : Bool} {t : TypeId} (h : cellEq (tyI P t).kind x y = some b) (hx : Rep im x u) (hy : Rep im y v) (d : Nat) :
    (Op.equalIn (d + 1) t u v).run P w = .ok b w := by
  unfold cellEq at h
  split at h
  · rename_i k a k' a' hk
    split at h
    · cases h
      rw [sInv hx, sInv hy]
      rename_i e; subst e
      rw [run_equalIn_int w d t _ _ _ _ (u_int hk)]
      congr 1
    · cases h
  · rename_i a a' hk
    cases h
    rw [sInv hx, sInv hy]
    rw [run_equalIn_bool' w d t _ _ (u_bool hk)]
    congr 1
  · rename_i a a' hk
    cases h
    rw [sInv hx, sInv hy]
    rw [run_equalIn_string w d t _ _ (u_str hk), toList_data, toList_data, beq_dec]
  · cases h

theorem part_cell {t : TypeId} (ht : (match (tyI P t).kind with | .int _ => true | .bool => true | .str => true | _ => false) = true) (cs : Array Value) (i : Nat) (v : Value) (h : cs[i]? = some v) :
    (part t cs i).run P w = .ok v w := by
  have hu : ∃ d, P.underlying t = some d ∧ (∀ fs, d ≠ .struct fs) ∧ (∀ n e, d ≠ .array n e) := by
    cases hk : (tyI P t).kind with
    | int k => exact ⟨_, u_int hk, by simp, by simp⟩
    | bool => exact ⟨_, u_bool hk, by simp, by simp⟩
    | str => exact ⟨_, u_str hk, by simp, by simp⟩
    | _ => simp [hk] at ht
  obtain ⟨d, hd, h1, h2⟩ := hu
  have hb : (isAgg t).run P w = .ok false w := by
    simp only [isAgg, Sem.run_bind, run_underlying hd, Result.andThen_ok]
    cases d <;> first | rfl | exact absurd rfl (h1 _) | exact absurd rfl (h2 _ _)
  simp [part, hb, h]

theorem eqFields_sound (fs : List Field) : ∀ (k : Nat) (xs ys : Array Value) (cs ds : List AV) (b : Bool), (fs.zipIdx k).all (fun (f, i) => f.name != "_" && f.offset == i && (match (tyI P f.type).kind with | .int _ => true | .bool => true | .str => true | _ => false)) = true →
    cellsEq (fs.map fun f => (tyI P f.type).kind) cs ds = some b → (∀ i c, cs[i]? = some c → ∃ v, xs[k + i]? = some v ∧ Rep im c v) → (∀ i c, ds[i]? = some c → ∃ v, ys[k + i]? = some v ∧ Rep im c v) →
    (Op.eqFields 9999 xs ys fs).run P w = .ok b w := by
  induction fs with
  | nil =>
    intro k xs ys cs ds b _ h _ _
    simp only [List.map_nil] at h
    unfold cellsEq at h
    split at h <;> simp_all [Op.eqFields]
  | cons f fs ih =>
    intro k xs ys cs ds b ha h hx hy
    simp only [List.zipIdx_cons, List.all_cons, Bool.and_eq_true, bne_iff_ne, ne_eq, beq_iff_eq] at ha
    obtain ⟨⟨⟨hn, ho⟩, ht⟩, ha⟩ := ha
    simp only [List.map_cons] at h
    unfold cellsEq at h
    split at h
    · simp at *
    · rename_i k' ks x xs' y ys' e1 
      split at h
      · rename_i p q hp hq
        cases h
        obtain ⟨v, hv, rv⟩ := hx 0 x (by simp)
        obtain ⟨u, hu, ru⟩ := hy 0 y (by simp)
        simp only [List.cons.injEq] at e1
        obtain ⟨rfl, rfl⟩ := e1
        have hc := cellEq_sound (P := P) (w := w) hp rv ru 9998
        have ih' := ih (k + 1) xs ys _ _ q ha hq (fun i c hi => by obtain ⟨v, h1, h2⟩ := hx (i + 1) c (by simpa using hi); exact ⟨v, by rw [← h1]; congr 1; omega, h2⟩)
          (fun i c hi => by obtain ⟨v, h1, h2⟩ := hy (i + 1) c (by simpa using hi); exact ⟨v, by rw [← h1]; congr 1; omega, h2⟩)
        simp only [Nat.add_zero] at hv hu
        simp only [Op.eqFields, hn, ne_eq, not_false_eq_true, if_true, Sem.run_bind, ho, part_cell ht _ _ _ hv, part_cell ht _ _ _ hu, Result.andThen_ok, hc]
        cases p
        · simp
        · simp [ih']
      · cases h
    · cases h

theorem run_equal_struct {t : TypeId} (hp : plainStruct P t = true) {cs ds : List AV} {b : Bool} (h : cellsEq (fkinds P t) cs ds = some b) {u v : Value} (hx : Rep im (.agg cs) u) (hy : Rep im (.agg ds) v) :
    (Op.equal t u v).run P w = .ok b w := by
  simp only [plainStruct, Bool.and_eq_true, Bool.not_eq_true'] at hp
  obtain ⟨⟨⟨hs, hh⟩, hg⟩, hf⟩ := hp
  have hu : ∃ fs, P.underlying t = some (.struct fs) ∧ fieldsOf P t = fs.toList := by
    cases e : P.underlying t with
    | none => simp [e] at hs
    | some d => cases d <;> simp_all [fieldsOf]
  obtain ⟨fs, hu, hfs⟩ := hu
  have hF : P.fieldsOf t = fs := by simp [Program.fieldsOf, hu]
  cases hx with
  | agg _ xs hxl hxr =>
    cases hy with
    | agg _ ys hyl hyr =>
      rw [equal_at, run_equalIn_struct w 9999 t xs ys (by rw [hF]; exact hu) hh, hF, ← hfs]
      refine eqFields_sound (im := im) _ 0 xs ys cs ds b hf h (fun i c hi => ?_) (fun i c hi => ?_)
      · have hlt : i < xs.size := by rw [hxl]; exact (List.getElem?_eq_some_iff.1 hi).1
        exact ⟨xs[i], by simp [hlt], hxr i c _ hi (by simp [hlt])⟩
      · have hlt : i < ys.size := by rw [hyl]; exact (List.getElem?_eq_some_iff.1 hi).1
        exact ⟨ys[i], by simp [hlt], hyr i c _ hi (by simp [hlt])⟩

theorem run_guard_struct {t : TypeId} (hp : plainStruct P t = true) (op : BinOp) (x y : Operand) (xs ys : Array Value) : (eqGuard op t x y (.agg xs) (.agg ys)).run P w = .ok () w := by
  simp only [plainStruct, Bool.and_eq_true, Bool.not_eq_true'] at hp
  have hg := hp.1.2
  unfold eqGuard
  cases op <;> simp [hg]

theorem bindGuard {g : Sem Unit} {x : Sem Value} {av : AV} (hg : g.run P w = .ok () w) (h : Pur P im w x av) : Pur P im w (do g; x) av := by
  obtain ⟨v, hr, hv⟩ := h
  exact ⟨v, by simp [hg, hr], hv⟩

/-! nil -/
theorem nilEq_inv {t : TypeId} {x y : AV} {u v : Value} {b : Bool} (h : nilEq (tyI P t).kind x y = some b) (hx : Rep im x u) (hy : Rep im y v) :
    (∃ e p q, P.underlying t = some (.pointer e) ∧ u = .pointer p ∧ v = .pointer q ∧ q = none ∧ b = p.isNone) ∨
    (∃ e p n c, P.underlying t = some (.slice e) ∧ u = .slice p n c ∧ v = .slice none 0 0 ∧ b = p.isNone) := by
  unfold nilEq at h
  split at h
  · split at h
    · rename_i hk; cases h
      cases hx; cases sInv hy
      exact .inl ⟨_, _, _, u_ptr hk, rfl, rfl, rfl, rfl⟩
    · cases h
  · split at h
    · rename_i hk; cases h
      cases hx; cases sInv hy
      exact .inl ⟨_, _, _, u_ptr hk, rfl, rfl, rfl, rfl⟩
    · cases h
  · split at h
    · rename_i hk; cases h
      cases sInv hx; cases sInv hy
      exact .inl ⟨_, _, _, u_ptr hk, rfl, rfl, rfl, rfl⟩
    · cases h
  · split at h
    · rename_i hk; cases h
      cases hx; cases sInv hy
      exact .inr ⟨_, _, _, _, u_slice hk, rfl, rfl, rfl⟩
    · cases h
  · split at h
    · rename_i hk; cases h
      cases sInv hx; cases sInv hy
      exact .inr ⟨_, _, _, _, u_slice hk, rfl, rfl, rfl⟩
    · cases h
  · cases h

theorem run_equalIn_nil {t : TypeId} {x y : AV} {u v : Value} {b : Bool} (h : nilEq (tyI P t).kind x y = some b) (hx : Rep im x u) (hy : Rep im y v) (d : Nat) : (Op.equalIn (d + 1) t u v).run P w = .ok b w := by
  rcases nilEq_inv h hx hy with ⟨e, p, q, h1, rfl, rfl, rfl, rfl⟩ | ⟨e, p, n, c, h1, rfl, rfl, rfl⟩ <;> cases p <;> simp [Op.equalIn, run_underlying h1]
theorem run_equal_nil {t : TypeId} {x y : AV} {u v : Value} {b : Bool} (h : nilEq (tyI P t).kind x y = some b) (hx : Rep im x u) (hy : Rep im y v) : (Op.equal t u v).run P w = .ok b w := by
  rw [equal_at]; exact run_equalIn_nil h hx hy _
theorem nil_guard {op : BinOp} {t : TypeId} {ox oy : Operand} {x y : AV} {u v : Value} {b : Bool} (h : nilEq (tyI P t).kind x y = some b) (hx : Rep im x u) (hy : Rep im y v) : eqGuard op t ox oy u v = pure () := by
  rcases nilEq_inv h hx hy with ⟨e, p, q, h1, rfl, rfl, rfl, rfl⟩ | ⟨e, p, n, c, h1, rfl, rfl, rfl⟩ <;> cases op <;> rfl
theorem nil_eql {t : TypeId} {x y : AV} {u v : Value} {b : Bool} (h : nilEq (tyI P t).kind x y = some b) (hx : Rep im x u) (hy : Rep im y v) : binOp .eql t u v = (do pure (.bool (← Op.equal t u v))) := by
  rcases nilEq_inv h hx hy with ⟨e, p, q, h1, rfl, rfl, rfl, rfl⟩ | ⟨e, p, n, c, h1, rfl, rfl, rfl⟩ <;> rfl
theorem nil_neq {t : TypeId} {x y : AV} {u v : Value} {b : Bool} (h : nilEq (tyI P t).kind x y = some b) (hx : Rep im x u) (hy : Rep im y v) : binOp .neq t u v = (do pure (.bool (!(← Op.equal t u v)))) := by
  rcases nilEq_inv h hx hy with ⟨e, p, q, h1, rfl, rfl, rfl, rfl⟩ | ⟨e, p, n, c, h1, rfl, rfl, rfl⟩ <;> rfl

theorem nilA_op {op : BinOp} {t : TypeId} {ox oy : Operand} {x y av : AV} {u v : Value} (h : (nilEq (tyI P t).kind x y).bind (tobool op) = some av) (hx : Rep im x u) (hy : Rep im y v) :
    Pur P im w (do eqGuard op t ox oy u v; binOp op t u v) av := by
  obtain ⟨r, hr, h⟩ := Option.bind_eq_some_iff.1 h
  refine bindGuard (by rw [nil_guard hr hx hy]; rfl) ?_
  exact tobool_sound h (run_equal_nil hr hx hy) (fun e => by subst e; exact nil_eql hr hx hy) (fun e => by subst e; exact nil_neq hr hx hy)

theorem binA_sound {op : BinOp} {t : TypeId} {ox oy : Operand} {x y av : AV} {u v : Value} (h : binA P op t (isConst ox || isConst oy) x y = some av) (hx : Rep im x u) (hy : Rep im y v) :
    Pur P im w (do eqGuard op t ox oy u v; binOp op t u v) av := by
  unfold binA at h
  split at h
  · rename_i k a k' b
    cases sInv hx; cases sInv hy
    refine bindGuard (by rw [eqGuard_at_int]; rfl) ?_
    split at h
    · rw [binOp_shl]; exact shiftA_sound h
    · rw [binOp_shr]; exact shiftA_sound h
    · split at h
      · rename_i h1 h2 hk; subst hk; exact intA_sound t h h1 h2
      · cases h
  · rename_i a b
    cases sInv hx; cases sInv hy
    refine bindGuard (by rw [eqGuard_at_string]; rfl) ?_
    have : binOp op t (.string a) (.string b) = Op.stringOp op a b := by cases op <;> rfl
    rw [this]; exact strA_sound h
  · rename_i a b
    cases sInv hx; cases sInv hy
    refine bindGuard (by rw [eqGuard_at_bool]; rfl) ?_
    split at h
    · rename_i hk
      refine tobool_sound h ?_ (fun e => by subst e; rfl) (fun e => by subst e; rfl)
      rw [equal_at, run_equalIn_bool' w _ t _ _ (u_bool hk)]; congr 1
    · cases h
  · rename_i a b
    cases sInv hx; cases sInv hy
    split at h
    · rename_i hk
      obtain ⟨r, hr, h⟩ := Option.bind_eq_some_iff.1 h
      refine bindGuard (by rw [guard_iface hr]; rfl) ?_
      exact tobool_sound h (run_equal_iface hk hr) (fun e => by subst e; exact equal_iface_eql hr) (fun e => by subst e; exact equal_iface_neq hr)
    · exact nilA_op h hx hy
  · rename_i cs ds
    split at h
    · rename_i hp
      obtain ⟨r, hr, h⟩ := Option.bind_eq_some_iff.1 h
      cases hx with
      | agg _ xs hxl hxr =>
        cases hy with
        | agg _ ys hyl hyr =>
          refine bindGuard (run_guard_struct hp ..) ?_
          exact tobool_sound h (run_equal_struct hp hr (.agg _ xs hxl hxr) (.agg _ ys hyl hyr)) (fun e => by subst e; rfl) (fun e => by subst e; rfl)
    · cases h
  · exact nilA_op h hx hy

theorem unA_sound {op : UnOp} {x av : AV} {u : Value} (h : unA op x = some av) (hx : Rep im x u) : Pur P im w (Op.unary op u) av := by
  unfold unA at h
  split at h
  · cases h; cases sInv hx; exact pur_s (by simp [Op.unary]) rfl
  · cases h; cases sInv hx; exact pur_s (by simp [Op.unary, Op.intArith]; rfl) (by simp)
  · cases h

/-! loads -/
theorem tk_agg {t : TypeId} : (tyI P t).agg = true → (∃ d, P.underlying t = some d ∧ (isAgg t).run P w = .ok true w) := by
  intro h
  simp only [TyI.agg] at h
  cases hk : (tyI P t).kind with
  | struct => obtain ⟨fs, hu, _⟩ := u_struct hk; exact ⟨_, hu, by simp [isAgg, run_underlying hu]⟩
  | array n e => have hu := u_array hk; exact ⟨_, hu, by simp [isAgg, run_underlying hu]⟩
  | _ => simp [hk] at h

theorem tk_single {t : TypeId} (h : (tyI P t).agg = false) (ho : (tyI P t).ok = true) : ∃ d, P.underlying t = some d ∧ (isAgg t).run P w = .ok false w := by
  simp only [TyI.agg] at h
  simp only [TyI.ok] at ho
  cases hk : (tyI P t).kind with
  | int k => have hu := u_int hk; exact ⟨_, hu, by simp [isAgg, run_underlying hu]⟩
  | bool => have hu := u_bool hk; exact ⟨_, hu, by simp [isAgg, run_underlying hu]⟩
  | str => have hu := u_str hk; exact ⟨_, hu, by simp [isAgg, run_underlying hu]⟩
  | slice e => have hu := u_slice hk; exact ⟨_, hu, by simp [isAgg, run_underlying hu]⟩
  | ptr e => have hu := u_ptr hk; exact ⟨_, hu, by simp [isAgg, run_underlying hu]⟩
  | iface => obtain ⟨ms, hu⟩ := u_iface hk; exact ⟨_, hu, by simp [isAgg, run_underlying hu]⟩
  | map k e => have hu := u_map hk; exact ⟨_, hu, by simp [isAgg, run_underlying hu]⟩
  | func =>
    simp only [tyI] at hk
    cases e : P.underlying t with
    | none => simp [e, tkOf] at hk
    | some d => cases d <;> simp_all [tkOf] <;> exact by simp [isAgg, run_underlying e]
  | struct => simp [hk] at h
  | array n e => simp [hk] at h
  | other => simp [hk] at ho

theorem loadCs_sound {t : TypeId} {cs : List AV} {av : AV} {b o : Nat} {f : Nat → Value} (h : loadCs (tyI P t) cs = some av) (hc : ∀ i c, cs[i]? = some c → w.cell? ⟨b, o + i, none⟩ = some (f i))
    (hr : ∀ i c, cs[i]? = some c → Rep im c (f i)) : Pur P im w (loadVar t ⟨b, o, none⟩) av := by
  unfold loadCs at h
  split at h
  · rename_i ha
    split at h
    · rename_i hl
      cases h
      obtain ⟨d, hu, hb⟩ := tk_agg (w := w) ha
      have hload := run_loadCells (P := P) w ⟨b, o, none⟩ (tyI P t).size f (fun j hj => by
        rw [Addr.add_lit]
        exact hc j (cs[j]'(by omega)) (by simp [show j < cs.length by omega]))
      refine ⟨.agg ((List.range (tyI P t).size).map f).toArray, ?_, ?_⟩
      · simp only [loadVar, Sem.run_bind, hb, Result.andThen_ok, if_true, run_sizeOf hu]
        have : (tyI P t).size = P.cellsOf t := rfl
        rw [← this, hload]; rfl
      · refine .agg _ _ (by simp; omega) fun i c v hi hv => ?_
        simp only [List.getElem?_take] at hi
        split at hi
        · simp only [List.getElem?_toArray, List.getElem?_map, List.getElem?_range (by assumption : i < (tyI P t).size), Option.map_some, Option.some.injEq] at hv
          subst hv; exact hr i c hi
        · cases hi
    · cases h
  · rename_i ha
    split at h
    · rename_i ho
      obtain ⟨d, hu, hb⟩ := tk_single (w := w) (by simpa using ha) ho
      cases cs with
      | nil => cases h
      | cons c cs =>
        obtain rfl : c = av := by simpa using h
        refine ⟨f 0, ?_, hr 0 c rfl⟩
        have := hc 0 c rfl
        simp only [Nat.add_zero] at this
        simp [loadVar, hb, this]
    · cases h

theorem loadA_sound {t : TypeId} {H : AHeap} {p av : AV} {u : Value} (h : loadA (tyI P t) H p = some av) (hp : Rep im p u)
    (himr : Imr im w) (hH : ∀ x ∈ H, ResOk im w x.2) : Pur P im w (Instr.loadAt t u) av := by
  unfold loadA at h
  split at h
  · rename_i cs
    cases hp with
    | rp _ b o f h1 h2 =>
      simp only [Instr.loadAt, Instr.sureAddr, pure_bind]
      exact loadCs_sound h (fun i c hi => (himr.c _ _ _ (h1 i c hi)).1) h2
  · rename_i l b off
    cases hp
    split at h
    · rename_i b' T cs hf
      split at h
      · rename_i e
        subst e
        obtain ⟨vs, hw, hl, hr, _⟩ := hH _ (find_mem hf)
        simp only [Instr.loadAt, Instr.sureAddr, pure_bind]
        have hget : ∀ i c, (cs.drop off)[i]? = some c → vs[off + i]? = some (vs.getD (off + i) undef) ∧ Rep im c (vs.getD (off + i) undef) := by
          intro i c hi
          rw [List.getElem?_drop] at hi
          have hlt : off + i < vs.size := by rw [hl]; exact (List.getElem?_eq_some_iff.1 hi).1
          have e : vs[off + i]? = some (vs.getD (off + i) undef) := by simp [hlt]
          exact ⟨e, (hr _ _ _ hi e).1⟩
        exact loadCs_sound (f := fun i => vs.getD (off + i) undef) h (fun i c hi => by simp only [World.cell?, hw]; simpa using (hget i c hi).1) (fun i c hi => (hget i c hi).2)
      · cases h
    · cases h
  · cases h

theorem nilA_sound {o : Oper} {a : Act} {x : Operand} {p av : AV} (ho : o.op = .nilCheck x) (h : nilA p = some av) (hp : Rep im p (a.eval x)) :
    ∃ v, (execOp a.eval o).run P w = .ok (.value v) w ∧ Rep im av v := by
  simp only [execOp, ho]
  unfold nilA at h
  split at h
  · cases h; generalize a.eval x = u at hp ⊢; cases hp with | rp _ b o f h1 h2 => exact ⟨_, rfl, .rp _ b o f h1 h2⟩
  · cases h; generalize a.eval x = u at hp ⊢; cases hp; exact ⟨_, rfl, .ptr ..⟩
  · cases h; generalize a.eval x = u at hp ⊢; cases hp with | fn _ _ _ fs cs h1 h2 h3 h4 => exact ⟨_, rfl, .fn _ _ _ fs cs h1 h2 h3 h4⟩
  · cases h; rw [sInv hp]; exact ⟨_, rfl, .s _⟩
  · cases h; rw [sInv hp]; exact ⟨_, rfl, .s _⟩
  · cases h

/-! conversions -/
theorem lst_cell {sz : Nat} {es : List AV} {ow : Option (Nat × Own)} {b off : Nat} {cap n : Nat} (h : Rep im (.lst sz es ow) (.slice (some ⟨b, off, none⟩) n cap)) :
    n = es.length ∧ n ≤ cap ∧ (∀ e ∈ es, e.cells.length = sz) ∧ ∃ f : Nat → Value, (∀ (i j : Nat) (e c : AV), es[i]? = some e → e.cells[j]? = some c → im b (off + (i * sz + j)) = some (f (i * sz + j))) ∧
      (∀ (i j : Nat) (e c : AV), es[i]? = some e → e.cells[j]? = some c → Rep im c (f (i * sz + j))) := by
  cases h with
  | lz => exact ⟨rfl, Nat.le_refl _, by simp, fun _ => undef, by simp, by simp⟩
  | lst _ _ _ _ _ _ f ho hc hz h1 h2 => exact ⟨rfl, hc, hz, f, h1, h2⟩

theorem isByte_inv {x : AV} {v : Value} (h : isByte x = true) (hx : Rep im x v) : ∃ n, v = .int .u8 n ∧ unbyte x = UInt8.ofNat n.toNat := by
  unfold isByte at h
  split at h
  · rename_i n; exact ⟨n, sInv hx, rfl⟩
  · cases h

theorem cells_byte {x : AV} (h : isByte x = true) : x.cells = [x] := by
  unfold isByte at h
  split at h
  · rfl
  · cases h

def numOf : AV → Int
  | .s (.int _ n) => n
  | _ => 0
theorem isByte_num {x : AV} {v : Value} (h : isByte x = true) (hx : Rep im x v) : v = .int .u8 (numOf x) := by
  unfold isByte at h
  split at h
  · rename_i n; rw [sInv hx]; rfl
  · cases h
theorem unbyte_num {x : AV} (h : isByte x = true) : unbyte x = UInt8.ofNat (numOf x).toNat := by
  unfold isByte at h
  split at h
  · rfl
  · cases h

theorem convA_sound {s d : TypeId} {x av : AV} {u : Value} (h : convA P s d x = some av) (hx : Rep im x u)
    (himr : Imr im w) : Pur P im w (convert s d u) av := by
  unfold convA at h
  split at h
  · rename_i k k' k'' n h1 h2
    cases h; rw [sInv hx]
    exact pur_s (by simp only [convert, Sem.run_bind, run_underlying (u_int h1), run_underlying (u_int h2), Result.andThen_ok, Conv.intToInt]; rfl) rfl
  · rename_i b h1 h2
    cases h; rw [sInv hx]
    exact pur_s (by simp only [convert, Sem.run_bind, run_underlying (u_str h1), run_underlying (u_str h2), Result.andThen_ok]; rfl) rfl
  · rename_i e es ow h1 h2
    split at h
    · rename_i h3
      split at h
      · rename_i h4
        cases h
        cases hx with
        | lnil _ _ _ =>
          refine ⟨.string .empty, ?_, ?_⟩
          · simp only [convert, Sem.run_bind, run_underlying (u_slice h1), run_underlying (u_str h2), run_underlying (u_int h3), Result.andThen_ok, Conv.bytesToString]; rfl
          · exact .s _
        | lz =>
          refine ⟨.string .empty, ?_, ?_⟩
          · simp only [convert, Sem.run_bind, run_underlying (u_slice h1), run_underlying (u_str h2), run_underlying (u_int h3), Result.andThen_ok, Conv.bytesToString]; rfl
          · exact .s _
        | lst _ _ _ b off cap f ho hc hz hi hr =>
          have hb : ∀ (i : Nat) (e : AV), es[i]? = some e → im b (off + i) = some (f i) ∧ Rep im e (f i) := by
            intro i e he
            have hby : isByte e = true := List.all_eq_true.1 h4 e (List.mem_of_getElem? he)
            have hcell := cells_byte hby
            have a1 := hi i 0 e e he (by simp [hcell])
            have a2 := hr i 0 e e he (by simp [hcell])
            simp only [Nat.mul_one, Nat.add_zero] at a1 a2
            exact ⟨a1, a2⟩
          have hcell : ∀ i, i < es.length → w.cell? ⟨b, off + i, none⟩ = some (.int .u8 ((es.map numOf).getD i 0)) := by
            intro i hlt
            have he : es[i]? = some es[i] := by simp [hlt]
            have h5 := hb i _ he
            have h6 := isByte_num (List.all_eq_true.1 h4 _ (List.mem_of_getElem? he)) h5.2
            rw [(himr.c _ _ _ h5.1).1, h6]
            simp [List.getD, he]
          refine ⟨_, run_convert_bytes_arg w s e (u_slice h1) (u_int h3) b off es.length cap (es.map numOf) (by simp) hcell d (u_str h2), ?_⟩
          have : Value.string (strOfNums (es.map numOf)) = strV (es.map unbyte) := by
            simp only [strV, strOfNums, List.map_map]
            congr 3
            exact List.map_congr_left fun x hx => (unbyte_num (List.all_eq_true.1 h4 x hx)).symm
          rw [this]; exact .s _
      · cases h
    · cases h
  · rename_i e h1 h2
    split at h
    · rename_i h3
      cases h
      rw [sInv hx]
      exact pur_s (v := .string .empty) (by simp only [convert, Sem.run_bind, run_underlying (u_slice h1), run_underlying (u_str h2), run_underlying (u_int h3), Result.andThen_ok, Conv.bytesToString]; rfl) rfl
    · cases h
  · cases h
end
end Go.Proofs.YtjhnabdcmfjeoaaGreatDoor.Ab
/- The machine computes what opVal says, second part. Own work; a plain theory over any program. -/
set_option linter.unusedVariables false
set_option linter.unusedSimpArgs false
namespace Go.Proofs.YtjhnabdcmfjeoaaGreatDoor.Ab
open Go

section
variable {P : Program} {im : Im} {w : World}

theorem bound_some {d n : Int} {x : Option AV} {v : Option Value} (h : boundA d x = some n) (hv : ∀ a, x = some a → ∃ u, v = some u ∧ Rep im a u) (hn : x = none → v = none) :
    (x = none ∧ v = none ∧ n = d) ∨ ∃ k, v = some (.int k n) := by
  unfold boundA at h
  split at h
  · cases h; exact .inl ⟨rfl, hn rfl, rfl⟩
  · rename_i k m
    cases h
    obtain ⟨u, hu, hr⟩ := hv _ rfl
    rw [sInv hr] at hu
    exact .inr ⟨k, hu⟩
  · cases h

theorem run_sliceBound (k : IntKind) (n : Int) (y : Nat) (c : BoundsCode) (h0 : 0 ≤ n) (h1 : n ≤ y) : (Instr.sliceBound (.int k n) y c).run P w = .ok n.toNat w := by
  simp [Instr.sliceBound, asIntOf, h0, h1]

theorem run_sliceBounds {isS : Bool} {len cap : Nat} {lo hi : Option Value} {l h : Int} (hl : (lo = none ∧ l = 0) ∨ ∃ k, lo = some (.int k l)) (hh : (hi = none ∧ h = len) ∨ ∃ k, hi = some (.int k h))
    (h0 : 0 ≤ l) (h1 : l ≤ h) (h2 : h ≤ len) (h3 : len ≤ cap) : (Instr.sliceBounds isS len cap lo hi none).run P w = .ok (l.toNat, h.toNat, cap) w := by
  simp only [Instr.sliceBounds]
  rcases hh with ⟨rfl, rfl⟩ | ⟨k, rfl⟩
  · rcases hl with ⟨rfl, rfl⟩ | ⟨k', rfl⟩
    · simp
    · have := run_sliceBound (P := P) (w := w) k' l len .sliceB h0 (by omega)
      simp [this]
  · have a1 := run_sliceBound (P := P) (w := w) k h cap (if isS then .sliceAcap else .sliceAlen) (by omega) (by omega)
    rcases hl with ⟨rfl, rfl⟩ | ⟨k', rfl⟩
    · simp [a1]
    · have := run_sliceBound (P := P) (w := w) k' l h.toNat .sliceB h0 (by omega)
      simp [a1, this]

theorem extract_bytes (b : ByteArray) (l h : Nat) (hh : h ≤ b.data.toList.length) : b.extract l h = ⟨((b.data.toList.take h).drop l).toArray⟩ := by
  apply ByteArray.ext
  rw [ByteArray.data_extract]
  apply Array.ext'
  simp only [Array.toList_extract, List.extract_eq_take_drop]
  rw [List.drop_take]

theorem get_drop_take {α : Type} {l : List α} {a b i : Nat} {x : α} (h : ((l.take b).drop a)[i]? = some x) : l[a + i]? = some x := by
  rw [List.getElem?_drop, List.getElem?_take] at h
  split at h
  · exact h
  · cases h

theorem sliceA_sound {t : TypeId} {x av : AV} {lo hi mx : Option AV} {u : Value} {vlo vhi vmx : Option Value} (h : sliceA P t x lo hi mx = some av) (hx : Rep im x u)
    (hlo : ∀ a, lo = some a → ∃ u, vlo = some u ∧ Rep im a u) (hlo' : lo = none → vlo = none) (hhi : ∀ a, hi = some a → ∃ u, vhi = some u ∧ Rep im a u) (hhi' : hi = none → vhi = none)
    (hmx' : mx = none → vmx = none) : Pur P im w (Instr.sliceAt t u vlo vhi vmx) av := by
  unfold sliceA at h
  split at h
  · rename_i b hk
    rw [hmx' rfl, sInv hx]
    split at h
    · rename_i l h' hl hh
      split at h
      · rename_i hc
        cases h
        have e1 := bound_some hl hlo hlo'
        have e2 := bound_some hh hhi hhi'
        have hb := run_sliceBounds (P := P) (w := w) (isS := false) (len := b.data.toList.length) (cap := b.data.toList.length) (lo := vlo) (hi := vhi) (l := l) (h := h')
          (e1.imp (fun h => ⟨h.2.1, h.2.2⟩) id) (e2.imp (fun h => ⟨h.2.1, h.2.2⟩) id) hc.1 hc.2.1 (by omega) (Nat.le_refl _)
        have hs : b.size = b.data.toList.length := rfl
        refine pur_s (v := .string (b.extract l.toNat h'.toNat)) ?_ ?_
        · simp only [Instr.sliceAt, Instr.slice, Sem.run_bind, run_underlying (u_str hk), Result.andThen_ok, Option.isSome_none, Bool.false_eq_true, if_false, hs, hb]
          rfl
        · simp only [strV]; rw [extract_bytes _ _ _ (by omega)]
      · cases h
    · cases h
  · rename_i e sz es ow hk
    rw [hmx' rfl]
    split at h
    · rename_i l h' hl hh
      split at h
      · rename_i hc
        obtain ⟨c0, c1, c2, hsz, hpos⟩ := hc
        cases h
        have e1 := bound_some hl hlo hlo'
        have e2 := bound_some hh hhi hhi'
        have hsize : ∀ w : World, (sizeOf e).run P w = .ok sz w := fun w => by
          have := run_sizeOf' (P := P) (t := e) (by rw [show P.cellsOf e = (tyI P e).size from rfl, hsz]; exact hpos) w
          rw [this]; congr 1
        cases hx with
        | lnil _ _ ho =>
          have hl0 : l = 0 := by simp at c2; omega
          have hh0 : h' = 0 := by simp at c2; omega
          subst hl0 hh0
          have hb := run_sliceBounds (P := P) (w := w) (isS := true) (len := 0) (cap := 0) (lo := vlo) (hi := vhi) (l := 0) (h := 0)
            (e1.imp (fun h => ⟨h.2.1, h.2.2⟩) id) (e2.imp (fun h => ⟨h.2.1, by simp⟩) id) (by omega) (by omega) (by omega) (Nat.le_refl _)
          refine ⟨.slice none 0 0, ?_, by simpa using Rep.lnil sz none (by simp)⟩
          simp only [Instr.sliceAt, Instr.slice, Sem.run_bind, run_underlying (u_slice hk), Result.andThen_ok, hb, hsize]
          rfl
        | lz _ ad =>
          have hl0 : l = 0 := by simp at c2; omega
          have hh0 : h' = 0 := by simp at c2; omega
          subst hl0 hh0
          have hb := run_sliceBounds (P := P) (w := w) (isS := true) (len := 0) (cap := 0) (lo := vlo) (hi := vhi) (l := 0) (h := 0)
            (e1.imp (fun h => ⟨h.2.1, h.2.2⟩) id) (e2.imp (fun h => ⟨h.2.1, by simp⟩) id) (by omega) (by omega) (by omega) (Nat.le_refl _)
          refine ⟨.slice (some ad) 0 0, ?_, by simpa using Rep.lz sz ad⟩
          simp only [Instr.sliceAt, Instr.slice, Sem.run_bind, run_underlying (u_slice hk), Result.andThen_ok, hb, hsize]
          rfl
        | lst _ _ _ b off cap f ho hcap hz hi hr =>
          have hb := run_sliceBounds (P := P) (w := w) (isS := true) (len := es.length) (cap := cap) (lo := vlo) (hi := vhi) (l := l) (h := h')
            (e1.imp (fun h => ⟨h.2.1, h.2.2⟩) id) (e2.imp (fun h => ⟨h.2.1, h.2.2⟩) id) c0 c1 (by omega) hcap
          have hlen : ((es.take h'.toNat).drop l.toNat).length = h'.toNat - l.toNat := by simp; omega
          refine ⟨.slice (some (if cap = l.toNat then ⟨b, off, none⟩ else ⟨b, off + l.toNat * sz, none⟩)) (h'.toNat - l.toNat) (cap - l.toNat), ?_, ?_⟩
          · simp only [Instr.sliceAt, Instr.slice, Sem.run_bind, run_underlying (u_slice hk), Result.andThen_ok, hb, hsize, Option.map_some, Addr.add_lit]
            split <;> rfl
          · split
            · rename_i hcl
              have h0 : h'.toNat - l.toNat = 0 := by omega
              have hnil : (es.take h'.toNat).drop l.toNat = [] := List.eq_nil_of_length_eq_zero (by omega)
              rw [hnil, h0]
              exact Rep.lst sz [] none b off _ f (by simp) (by simp) (by simp) (by simp) (by simp)
            · rw [← hlen]
              refine Rep.lst sz _ none b (off + l.toNat * sz) _ (fun k => f (l.toNat * sz + k)) (by simp) (by rw [hlen]; omega) (fun e he => hz e (List.mem_of_mem_take (List.mem_of_mem_drop he))) ?_ ?_
              · intro i j e' c he hec
                have := hi (l.toNat + i) j e' c (get_drop_take he) hec
                rw [Nat.add_mul] at this
                rw [show off + l.toNat * sz + (i * sz + j) = off + (l.toNat * sz + i * sz + j) by omega, this]
                congr 2
                omega
              · intro i j e' c he hec
                have := hr (l.toNat + i) j e' c (get_drop_take he) hec
                rw [Nat.add_mul] at this
                rw [show l.toNat * sz + (i * sz + j) = l.toNat * sz + i * sz + j by omega]
                exact this
      · cases h
    · cases h
  · cases h

theorem drop_rep {cs : List AV} {b o k : Nat} {f : Nat → Value} (h1 : ∀ (i : Nat) (c : AV), cs[i]? = some c → im b (o + i) = some (f i)) (h2 : ∀ (i : Nat) (c : AV), cs[i]? = some c → Rep im c (f i)) :
    Rep im (.rp (cs.drop k)) (.pointer (some ⟨b, o + k, none⟩)) := by
  refine .rp _ b (o + k) (fun i => f (k + i)) (fun i c hc => ?_) (fun i c hc => ?_)
  · rw [List.getElem?_drop] at hc
    rw [show o + k + i = o + (k + i) by omega]
    exact h1 _ _ hc
  · rw [List.getElem?_drop] at hc
    exact h2 _ _ hc

theorem offs_get {t : TypeId} {f o : Nat} (h : (tyI P t).offs[f]? = some o) : ∃ fd, (fieldsOf P t)[f]? = some fd ∧ fd.offset = o ∧ 0 < P.cellsOf fd.type := by
  simp only [tyI] at h
  split at h
  · rename_i ha
    rw [List.getElem?_map, Option.map_eq_some_iff] at h
    obtain ⟨fd, hf, rfl⟩ := h
    exact ⟨fd, hf, rfl, by simpa using List.all_eq_true.1 ha fd (List.mem_of_getElem? hf)⟩
  · simp at h

theorem run_fieldAt {t : TypeId} {f o : Nat} (hk : (tyI P t).kind = .struct) (h : (tyI P t).offs[f]? = some o) (b off : Nat) :
    (Instr.fieldAt t (.pointer (some ⟨b, off, none⟩)) f).run P w = .ok (.pointer (some ⟨b, off + o, none⟩)) w := by
  obtain ⟨fs, hu, hfs⟩ := u_struct hk
  obtain ⟨fd, hf, ho, hp⟩ := offs_get h
  rw [hfs] at hf
  have hf' : fs[f]? = some fd := by rw [← Array.getElem?_toList]; exact hf
  have h0 : ¬ P.cellsOf fd.type = 0 := by omega
  simp only [Instr.fieldAt, Sem.run_bind, run_underlying hu, Result.andThen_ok, hf', Instr.sureAddr, Sem.run_pure, fieldPlace, run_sizeOf' hp, h0, if_false, Addr.add_lit, ho]

theorem fieldAddrA_sound {t : TypeId} {f : Nat} {x av : AV} {u : Value} (h : fieldAddrA (tyI P t) f x = some av) (hx : Rep im x u) : Pur P im w (Instr.fieldAt t u f) av := by
  unfold fieldAddrA at h
  split at h
  · split at h
    · rename_i o hk ho
      cases h
      cases hx with
      | rp _ b off g h1 h2 => exact ⟨_, run_fieldAt hk ho b off, drop_rep h1 h2⟩
    · cases h
  · split at h
    · rename_i o hk ho
      cases h
      cases hx
      exact ⟨_, run_fieldAt hk ho _ _, .ptr ..⟩
    · cases h
  · cases h

theorem indexAddrA_sound {t : TypeId} {x i av : AV} {u v : Value} (h : indexAddrA P t x i = some av) (hx : Rep im x u) (hi : Rep im i v) : Pur P im w (Instr.indexAt t u v) av := by
  unfold indexAddrA at h
  split at h
  · rename_i e sz es ow k n hk
    split at h
    · rename_i hc
      obtain ⟨h0, h1, hsz, hpos⟩ := hc
      cases h
      rw [sInv hi]
      cases hx with
      | lnil _ _ _ => simp at h1; omega
      | lz => simp at h1; omega
      | lst _ _ _ b off cap f ho hcap hz hci hcr =>
        have hE : P.elem t = e := by simp [Program.elem, u_slice hk]
        have hget : es[n.toNat]? = some (es.getD n.toNat .any) := by
          have : n.toNat < es.length := by omega
          simp [this]
        refine ⟨.pointer (some ⟨b, off + n.toNat * sz, none⟩), ?_, ?_⟩
        · rw [run_indexAt_slice w t _ _ _ _ _ (by rw [hE]; exact u_slice hk), if_pos ⟨h0, h1⟩, hE]
          have hs := run_sizeOf' (P := P) (t := e) (by rw [show P.cellsOf e = (tyI P e).size from rfl, hsz]; exact hpos) w
          rw [hs]
          simp only [Result.andThen_ok, Addr.add_lit]
          rw [show P.cellsOf e = sz from hsz]
        · refine .rp _ b (off + n.toNat * sz) (fun j => f (n.toNat * sz + j)) (fun j c hc => ?_) (fun j c hc => ?_)
          · have := hci n.toNat j _ c hget hc
            rw [show off + n.toNat * sz + j = off + (n.toNat * sz + j) by omega]
            exact this
          · exact hcr n.toNat j _ c hget hc
    · cases h
  · cases h

theorem indexA_sound {t : TypeId} {x i av : AV} {u v : Value} (h : indexA P t x i = some av) (hx : Rep im x u) (hi : Rep im i v) : Pur P im w (Instr.index t u v) av := by
  unfold indexA at h
  split at h
  · rename_i b k n hk
    split at h
    · rename_i hc
      cases h
      rw [sInv hx, sInv hi]
      have hlt : n.toNat < b.data.toList.length := by omega
      have hb : b[n.toNat]? = some (b.data.toList.getD n.toNat 0) := by
        have hs : n.toNat < b.size := hlt
        simp only [List.getD, List.getElem?_eq_getElem hlt, Option.getD_some]
        rw [getElem?_pos b n.toNat hs]
        rfl
      exact pur_s (by simp only [Instr.index, asIntOf, Sem.run_bind, Sem.run_pure, Result.andThen_ok, run_underlying (u_str hk), hc.1, if_true, hb]) rfl
    · cases h
  · cases h

theorem extractA_sound {i : Nat} {x av : AV} {u : Value} (h : extractA i x = some av) (hx : Rep im x u) : Pur P im w (Instr.extract u i) av := by
  unfold extractA at h
  split at h
  · cases hx with
    | tup cs vs hl hr =>
      have hlt : i < vs.size := by rw [hl]; exact (List.getElem?_eq_some_iff.1 h).1
      have : vs[i]? = some vs[i] := by simp [hlt]
      exact ⟨vs[i], by simp only [Instr.extract, this]; rfl, hr i av _ h this⟩
  · cases h

theorem lenA_sound {t ty : TypeId} {x av : AV} {u : Value} (h : lenA P t x = some av) (hx : Rep im x u) : Pur P im w (Builtin.len_ #[t] ty #[u]) av := by
  unfold lenA at h
  split at h
  · split at h
    · rename_i e hk
      cases h
      cases hx with
      | lnil _ _ _ => exact pur_s (run_len_slice w t ty none 0 0 (by simp [Program.elem, u_slice hk])) rfl
      | lz => exact pur_s (run_len_slice w t ty _ 0 0 (by simp [Program.elem, u_slice hk])) rfl
      | lst _ _ _ b off cap f ho hcap hz hci hcr => exact pur_s (run_len_slice w t ty _ _ _ (by simp [Program.elem, u_slice hk])) rfl
    · cases h
  · split at h
    · rename_i hk
      cases h
      rw [sInv hx]
      exact pur_s (by simp only [Builtin.len_, List.getElem?_toArray, List.getElem?_cons_zero, Sem.run_bind, run_underlying (u_str hk), Result.andThen_ok]; rfl) rfl
    · cases h
  · split at h
    · rename_i e hk
      cases h
      rw [sInv hx]
      exact pur_s (run_len_slice w t ty none 0 0 (by simp [Program.elem, u_slice hk])) rfl
    · cases h
  · cases h

theorem tk_some {t : TypeId} (h1 : (tyI P t).kind ≠ .other) (h2 : (tyI P t).kind ≠ .iface) : ∃ d, P.underlying t = some d ∧ (∀ ms, d ≠ .interface ms) := by
  simp only [tyI] at h1 h2
  cases e : P.underlying t with
  | none => simp [e, tkOf] at h1
  | some d => exact ⟨d, rfl, fun ms hd => by subst hd; simp [e, tkOf] at h2⟩

theorem mkifaceA_sound {t : TypeId} {x av : AV} {u : Value} (h : mkifaceA P t x = some av) (hx : Rep im x u) : Pur P im w (Instr.makeInterface t u) av := by
  unfold mkifaceA at h
  split at h
  · cases h
  · cases h
  · rename_i h1 h2
    obtain ⟨d, hu, hd⟩ := tk_some (P := P) (t := t) h2 h1
    have hrun : ∀ v, (Instr.makeInterface t v).run P w = .ok (.iface t v) w := fun v => by
      simp only [Instr.makeInterface, Sem.run_bind, run_underlying hu, Result.andThen_ok]
      cases d <;> first | rfl | exact absurd rfl (hd _)
    split at h
    · cases h; rw [sInv hx]; exact pur_s (hrun _) rfl
    · cases h; cases hx; exact pur_s (hrun _) rfl
    · cases h

/-! building structs -/
def RepCells (im : Im) (cs : List AV) (vs : Array Value) : Prop := vs.size = cs.length ∧ ∀ (i : Nat) (c : AV) (v : Value), cs[i]? = some c → vs[i]? = some v → Rep im c v

theorem splice_get (off : Nat) : ∀ (l : List Value) (k : Nat) (cs : Array Value) (i : Nat), off + k + l.length ≤ cs.size →
    ((l.zipIdx k).foldl (fun cs (x : Value × Nat) => cs.setIfInBounds (off + x.2) x.1) cs).size = cs.size ∧
    ((l.zipIdx k).foldl (fun cs (x : Value × Nat) => cs.setIfInBounds (off + x.2) x.1) cs)[i]? = if off + k ≤ i ∧ i < off + k + l.length then l[i - (off + k)]? else cs[i]? := by
  intro l
  induction l with
  | nil => intro k cs i h; simp; omega
  | cons v l ih =>
    intro k cs i h
    simp only [List.zipIdx_cons, List.foldl_cons, List.length_cons] at h ⊢
    obtain ⟨h1, h2⟩ := ih (k + 1) (cs.setIfInBounds (off + k) v) i (by simp; omega)
    refine ⟨by rw [h1]; simp, ?_⟩
    rw [h2]
    by_cases hi : i = off + k
    · subst hi
      rw [if_neg (by omega), if_pos (by omega)]
      simp only [Array.getElem?_setIfInBounds, Nat.sub_self, List.getElem?_cons_zero]
      simp; omega
    · by_cases hj : off + (k + 1) ≤ i ∧ i < off + (k + 1) + l.length
      · rw [if_pos hj, if_pos (by omega)]
        obtain ⟨m, rfl⟩ : ∃ m, i = off + k + (m + 1) := ⟨i - (off + k) - 1, by omega⟩
        rw [show off + k + (m + 1) - (off + k) = m + 1 by omega, show off + k + (m + 1) - (off + (k + 1)) = m by omega, List.getElem?_cons_succ]
      · rw [if_neg hj, if_neg (by omega)]
        rw [Array.getElem?_setIfInBounds, if_neg (by omega)]

theorem ones_cells {av : AV} {v : Value} (h : av.ones = true) (hv : Rep im av v) : RepCells im av.cells v.cells ∧ ∀ (i : Nat) (u : Value), v.cells[i]? = some u → u.oneCell' = true := by
  have key : ∀ (c : AV) (u : Value), c.one = true → Rep im c u → u.oneCell' = true := by
    intro c u hc hr
    cases hr <;> simp_all [AV.one, Value.oneCell']
  cases hv with
  | agg cs vs hl hr =>
    refine ⟨⟨hl, hr⟩, fun i u hu => ?_⟩
    simp only [AV.ones, AV.cells, List.all_eq_true] at h
    have hlt : i < cs.length := by
      have := (Array.getElem?_eq_some_iff.1 hu).1
      simp only [Value.cells] at this
      omega
    exact key _ u (h _ (List.getElem_mem hlt)) (hr i _ u (by simp [hlt]) hu)
  | s v =>
    have h1 : v.oneCell' = true := by simpa [AV.ones, AV.cells, AV.one] using h
    have hc : v.cells = #[v] := by cases v <;> simp_all [Value.cells, Value.oneCell']
    refine ⟨⟨by simp [hc, AV.cells], fun i c u hi hu => ?_⟩, fun i u hu => ?_⟩
    · rw [hc] at hu
      cases i with
      | zero => simp [AV.cells] at hi hu; subst hi hu; exact .s v
      | succ i => simp at hu
    · rw [hc] at hu
      cases i with
      | zero => simp at hu; subst hu; exact h1
      | succ i => simp at hu
  | any v => simp [AV.ones, AV.cells, AV.one] at h
  | tup cs vs hl hr => simp [AV.ones, AV.cells, AV.one] at h
  | rp cs b o f h1 h2 =>
    refine ⟨⟨rfl, fun i c u hi hu => ?_⟩, fun i u hu => ?_⟩
    · cases i with
      | zero => simp [AV.cells, Value.cells] at hi hu; subst hi hu; exact .rp cs b o f h1 h2
      | succ i => simp [Value.cells] at hu
    · cases i with
      | zero => simp [Value.cells] at hu; subst hu; rfl
      | succ i => simp [Value.cells] at hu
  | ptr l b off =>
    refine ⟨⟨rfl, fun i c u hi hu => ?_⟩, fun i u hu => ?_⟩
    · cases i with
      | zero => simp [AV.cells, Value.cells] at hi hu; subst hi hu; exact .ptr ..
      | succ i => simp [Value.cells] at hu
    · cases i with
      | zero => simp [Value.cells] at hu; subst hu; rfl
      | succ i => simp [Value.cells] at hu
  | mpr es b ms clock k1 k2 k3 k4 =>
    refine ⟨⟨rfl, fun i c u hi hu => ?_⟩, fun i u hu => ?_⟩
    · cases i with
      | zero => simp [AV.cells, Value.cells] at hi hu; subst hi hu; exact .mpr es b ms clock k1 k2 k3 k4
      | succ i => simp [Value.cells] at hu
    · cases i with
      | zero => simp [Value.cells] at hu; subst hu; rfl
      | succ i => simp [Value.cells] at hu
  | lnil sz o ho =>
    refine ⟨⟨rfl, fun i c u hi hu => ?_⟩, fun i u hu => ?_⟩
    · cases i with
      | zero => simp [AV.cells, Value.cells] at hi hu; subst hi hu; exact .lnil _ _ ho
      | succ i => simp [Value.cells] at hu
    · cases i with
      | zero => simp [Value.cells] at hu; subst hu; rfl
      | succ i => simp [Value.cells] at hu
  | lz sz ad =>
    refine ⟨⟨rfl, fun i c u hi hu => ?_⟩, fun i u hu => ?_⟩
    · cases i with
      | zero => simp [AV.cells, Value.cells] at hi hu; subst hi hu; exact .lz _ _
      | succ i => simp [Value.cells] at hu
    · cases i with
      | zero => simp [Value.cells] at hu; subst hu; rfl
      | succ i => simp [Value.cells] at hu
  | lst sz es o b off cap f ho hcap hz hi' hr' =>
    refine ⟨⟨rfl, fun i c u hi hu => ?_⟩, fun i u hu => ?_⟩
    · cases i with
      | zero => simp [AV.cells, Value.cells] at hi hu; subst hi hu; exact .lst _ _ _ _ _ _ f ho hcap hz hi' hr'
      | succ i => simp [Value.cells] at hu
    · cases i with
      | zero => simp [Value.cells] at hu; subst hu; rfl
      | succ i => simp [Value.cells] at hu
  | fn f fi ca fs cs h1 h2 h3 h4 =>
    refine ⟨⟨rfl, fun i c u hi hu => ?_⟩, fun i u hu => ?_⟩
    · cases i with
      | zero => simp [AV.cells, Value.cells] at hi hu; subst hi hu; exact .fn f fi ca fs cs h1 h2 h3 h4
      | succ i => simp [Value.cells] at hu
    · cases i with
      | zero => simp [Value.cells] at hu; subst hu; rfl
      | succ i => simp [Value.cells] at hu

theorem splice_rep {cs vs : List AV} {arr : Array Value} {v : Array Value} {off : Nat} (h : RepCells im cs arr) (hv : RepCells im vs v) (ho : off + vs.length ≤ cs.length) :
    RepCells im (putCells cs off vs) (v.zipIdx.foldl (fun cs (x : Value × Nat) => cs.setIfInBounds (off + x.2) x.1) arr) := by
  have e : v.zipIdx.foldl (fun cs (x : Value × Nat) => cs.setIfInBounds (off + x.2) x.1) arr = (v.toList.zipIdx 0).foldl (fun cs (x : Value × Nat) => cs.setIfInBounds (off + x.2) x.1) arr := by
    rw [← Array.foldl_toList, Array.toList_zipIdx]
  rw [e]
  have hlen : v.toList.length = vs.length := by simpa using hv.1
  have hs := fun i => splice_get off v.toList 0 arr i (by rw [hlen, h.1]; omega)
  refine ⟨by rw [(hs 0).1, h.1]; simp [putCells]; omega, fun i c u hi hu => ?_⟩
  rw [(hs i).2, hlen] at hu
  simp only [putCells, List.append_assoc] at hi
  by_cases h1 : i < off
  · rw [if_neg (by omega)] at hu
    rw [List.getElem?_append_left (by simp; omega), List.getElem?_take, if_pos h1] at hi
    exact h.2 i c u hi hu
  · rw [List.getElem?_append_right (by simp; omega)] at hi
    have hmin : (List.take off cs).length = off := by simp; omega
    rw [hmin] at hi
    by_cases h2 : i - off < vs.length
    · rw [if_pos (by omega)] at hu
      rw [List.getElem?_append_left h2] at hi
      exact hv.2 _ c u hi (by simpa using hu)
    · rw [if_neg (by omega)] at hu
      rw [List.getElem?_append_right (by omega), List.getElem?_drop] at hi
      exact h.2 i c u (by rw [← hi]; congr 1; omega) hu

theorem fillA_sound {t : TypeId} {fs : Array Field} (hfs : fieldsOf P t = fs.toList) {place : Nat → Option (Nat × Nat)} (hpl : ∀ f, place f = (fs[f]?).map fun fd => (fd.offset, P.cellsOf fd.type)) :
    ∀ (parts : List (Nat × AV)) (ps : List (Nat × Value)) (cs cs' : List AV) (arr : Array Value), RepCells im cs arr → ps.map (·.1) = parts.map (·.1) →
    (∀ (i f : Nat) (av : AV) (f' : Nat) (v : Value), parts[i]? = some (f, av) → ps[i]? = some (f', v) → Rep im av v) → fillA P (tyI P t) cs parts = some cs' →
    ∃ arr', Instr.fill place arr ps = some arr' ∧ RepCells im cs' arr' := by
  intro parts
  induction parts with
  | nil =>
    intro ps cs cs' arr h hps _ hf
    have : ps = [] := by simpa using hps
    subst this
    cases hf
    exact ⟨arr, rfl, h⟩
  | cons x parts ih =>
    intro ps cs cs' arr h hps hr hf
    cases ps with
    | nil => simp at hps
    | cons y ps =>
      obtain ⟨f, av⟩ := x
      obtain ⟨f', v⟩ := y
      simp only [List.map_cons, List.cons.injEq] at hps
      obtain ⟨rfl, hps⟩ := hps
      simp only [fillA] at hf
      split at hf
      · rename_i o ft ho hft
        split at hf
        · rename_i hc
          obtain ⟨h1, h2, h3⟩ := hc
          obtain ⟨fd, hfd, hoff, hpos⟩ := offs_get ho
          have hv := ones_cells h1 (hr 0 f' av f' v rfl rfl)
          have hft' : fd.type = ft := by simpa [tyI, List.getElem?_map, hfd] using hft
          have hfd' : fs[f']? = some fd := by rw [← Array.getElem?_toList, ← hfs]; exact hfd
          obtain ⟨arr', h4, h5⟩ := ih ps _ cs' _ (splice_rep h hv.1 h3) hps (fun i g a g' u hi hu => hr (i + 1) g a g' u hi hu) hf
          refine ⟨arr', ?_, h5⟩
          have h2' : av.cells.length = P.cellsOf ft := h2
          have e1 : v.cells.size = P.cellsOf ft := by rw [hv.1.1, h2']
          simp only [Instr.fill, hpl, hfd', Option.map_some, hft', hoff]
          rw [if_neg]
          · exact h4
          · have := h.1
            simp [e1]
            omega
        · cases hf
      · cases hf

theorem buildA_sound {t : TypeId} {parts : List (Nat × AV)} {ps : Array (Nat × Value)} {av : AV} (h : buildA P t parts = some av) (hps : ps.toList.map (·.1) = parts.map (·.1))
    (hr : ∀ (i f : Nat) (av : AV) (f' : Nat) (v : Value), parts[i]? = some (f, av) → ps.toList[i]? = some (f', v) → Rep im av v) : Pur P im w (Instr.build t ps) av := by
  unfold buildA at h
  split at h
  · rename_i hk
    split at h
    · cases h
    rename_i hz
    rw [Option.map_eq_some_iff] at h
    obtain ⟨cs', hf, rfl⟩ := h
    obtain ⟨fs, hu, hfs⟩ := u_struct hk
    obtain ⟨i, hi⟩ := info_of_underlying hu
    have hzero : ∃ z, i.zero = some z ∧ z.cells.toList = (tyI P t).zero := by
      have hz0 : ¬ (tyI P t).zero.length = 0 := fun e => hz (.inl e)
      simp only [tyI, hi, Option.bind_some] at hz0 ⊢
      cases e : i.zero with
      | none => simp [e] at hz0
      | some z => exact ⟨z, rfl, by simp⟩
    obtain ⟨z, hzz, hzc⟩ := hzero
    have hzr : (zeroValue t).run P w = .ok z w := by simp [zeroValue, typeInfo, hi, hzz]
    have hrep : RepCells im ((tyI P t).zero.map .s) z.cells := by
      rw [← hzc]
      refine ⟨by simp, fun i c v hi hv => ?_⟩
      simp only [List.getElem?_map, Option.map_eq_some_iff, Array.getElem?_toList] at hi
      obtain ⟨u', hu', rfl⟩ := hi
      rw [hu'] at hv
      cases hv
      exact .s _
    have hall : ∀ f ∈ fs.toList, 0 < P.cellsOf f.type := by
      intro f hf'
      have ho : ¬ (tyI P t).offs.length = 0 := fun e => hz (.inr e)
      simp only [tyI] at ho
      split at ho
      · rename_i ha
        rw [hfs] at ha
        simpa using List.all_eq_true.1 ha f hf'
      · simp at ho
    have hsizes : ∀ (l : List Field), (∀ f ∈ l, 0 < P.cellsOf f.type) → (l.mapM fun f => (do pure (f.offset, ← sizeOf f.type) : Sem (Nat × Nat))).run P w = .ok (l.map fun f => (f.offset, P.cellsOf f.type)) w := by
      intro l
      induction l with
      | nil => intro _; simp
      | cons f l ih =>
        intro hl
        have := ih fun g hg => hl g (by simp [hg])
        simp only [List.mapM_cons, Sem.run_bind, run_sizeOf' (hl f (by simp)), Result.andThen_ok, Sem.run_pure, this, List.map_cons]
    have hm : (fs.mapM fun f => (do pure (f.offset, ← sizeOf f.type) : Sem (Nat × Nat))).run P w = .ok (fs.map fun f => (f.offset, P.cellsOf f.type)) w := by
      rw [Array.mapM_eq_mapM_toList]
      simp only [Sem.run_map, hsizes fs.toList hall, Result.andThen_ok]
      congr 1
      apply Array.ext'
      simp
    obtain ⟨arr', h4, h5⟩ := fillA_sound (P := P) (t := t) hfs (place := ((fs.map fun f => (f.offset, P.cellsOf f.type))[·]?)) (fun f => by simp) parts ps.toList _ cs' z.cells hrep hps hr hf
    refine ⟨.agg arr', ?_, .agg _ _ h5.1 h5.2⟩
    simp only [Instr.build, Sem.run_bind, hzr, Result.andThen_ok, run_underlying hu, hm, h4]
    rfl
  · cases h
end
end Go.Proofs.YtjhnabdcmfjeoaaGreatDoor.Ab
/- opVal is sound; operations that lay protected memory. Own work; a plain theory over any program. -/
set_option linter.unusedVariables false
set_option linter.unusedSimpArgs false
namespace Go.Proofs.YtjhnabdcmfjeoaaGreatDoor.Ab
open Go

section
variable {P : Program} {im : Im} {w : World}

theorem Pur.op {x : Sem Value} {av : AV} (h : Pur P im w x av) : ∃ v, (do pure (.value (← x)) : Sem Next).run P w = .ok (.value v) w ∧ Rep im av v := by
  obtain ⟨v, hr, hv⟩ := h
  exact ⟨v, by simp [hr], hv⟩

theorem opVal_sound {gl E : Nat → AV} {H : AHeap} {o : Oper} {a : Act} {av : AV} (h : opVal P gl E H o.op = some av) (hE : RepE im E a) (hg : RepG im gl)
    (himr : Imr im w) (hH : ∀ x ∈ H, ResOk im w x.2) :
    ∃ v, (execOp a.eval o).run P w = .ok (.value v) w ∧ Rep im av v := by
  obtain ⟨dst, op, ty, pos, after, guard⟩ := o
  have ev := fun x => rep_ev hE hg x
  cases op with
  | move x => cases h; exact ⟨_, rfl, ev x⟩
  | assign x => cases h; exact ⟨_, rfl, ev x⟩
  | pick c x y =>
    simp only [opVal, pickA] at h
    split at h
    · rename_i t hc
      have hcv := ev c
      rw [hc] at hcv
      have := sInv hcv
      cases h
      refine ⟨if t then a.eval x else a.eval y, by simp [execOp, this, asBool], ?_⟩
      split
      · exact ev x
      · exact ev y
    · cases h
  | load t p => exact (loadA_sound h (ev p) himr hH).op
  | nilCheck x => exact nilA_sound rfl h (ev x)
  | binOp op t x y yt => exact (binA_sound (op := op) (ox := x) (oy := y) h (ev x) (ev y)).op
  | unOp op t x => exact (unA_sound h (ev x)).op
  | convert s d x => exact (convA_sound h (ev x) himr).op
  | makeInterface t x => exact (mkifaceA_sound h (ev x)).op
  | makeFunc f fi ca =>
    cases h
    refine ⟨.func f (fi.map a.eval) (ca.map a.eval), rfl, .fn _ _ _ _ _ (by simp) (by simp) (fun i c v hi hv => ?_) (fun i c v hi hv => ?_)⟩
    · simp only [List.getElem?_map, Array.getElem?_map, Array.getElem?_toList, Option.map_eq_some_iff] at hi hv
      obtain ⟨x, hx, rfl⟩ := hi; obtain ⟨y, hy, rfl⟩ := hv
      rw [hx] at hy; cases hy; exact ev x
    · simp only [List.getElem?_map, Array.getElem?_map, Array.getElem?_toList, Option.map_eq_some_iff] at hi hv
      obtain ⟨x, hx, rfl⟩ := hi; obtain ⟨y, hy, rfl⟩ := hv
      rw [hx] at hy; cases hy; exact ev x
  | slice t x lo hi mx =>
    have hop : ∀ (y : Option Operand) (b : AV), y.map (evA gl E) = some b → ∃ u, y.map a.eval = some u ∧ Rep im b u := by
      intro y b hb
      cases y with
      | none => cases hb
      | some y => cases hb; exact ⟨_, rfl, ev y⟩
    exact (sliceA_sound h (ev x) (hop lo) (fun e => by cases lo <;> simp_all) (hop hi) (fun e => by cases hi <;> simp_all) (fun e => by cases mx <;> simp_all)).op
  | fieldAddr s x f => exact (fieldAddrA_sound h (ev x)).op
  | indexAddr t x i => exact (indexAddrA_sound h (ev x) (ev i)).op
  | index t x i => exact (indexA_sound h (ev x) (ev i)).op
  | extract x i => exact (extractA_sound h (ev x)).op
  | build t parts =>
    refine Pur.op (buildA_sound h (by simp) ?_)
    intro i f b f' v hi hv
    simp only [List.getElem?_map, Array.getElem?_toList, Array.getElem?_map, Option.map_eq_some_iff, Prod.mk.injEq] at hi hv
    obtain ⟨x, hx, rfl, rfl⟩ := hi
    obtain ⟨y, hy, rfl, rfl⟩ := hv
    rw [hx] at hy; cases hy
    exact ev _
  | call c =>
    obtain ⟨callee, args, argTypes⟩ := c
    simp only [opVal, callVal] at h
    split at h
    · rename_i b
      obtain ⟨args⟩ := args
      obtain ⟨argTypes⟩ := argTypes
      simp only [builtinVal] at h
      split at h
      · rename_i x t ha
        cases args with
        | nil => simp at ha
        | cons y args =>
          cases args with
          | nil =>
            simp only [List.map_cons, List.map_nil, List.cons.injEq, and_true] at ha
            subst ha
            obtain ⟨v, hr, hv⟩ := lenA_sound (w := w) (ty := ty) h (ev y)
            exact ⟨v, by simp [execOp, resolve, invoke, builtin, hr], hv⟩
          | cons z args => simp at ha
      · rename_i x y ha
        cases args with
        | nil => simp at ha
        | cons y' args =>
          cases args with
          | nil => simp at ha
          | cons z args =>
            cases args with
            | nil =>
              simp only [List.map_cons, List.map_nil, List.cons.injEq, and_true] at ha
              obtain ⟨rfl, rfl⟩ := ha
              have e1 := ev y'
              have e2 := ev z
              simp only [minA] at h
              split at h
              · rename_i k n k' m h1 h2
                rw [h1] at e1; rw [h2] at e2
                cases h
                refine ⟨_, ?_, .s _⟩
                simp [execOp, resolve, invoke, builtin, Builtin.min_, sInv e1, sInv e2, Builtin.min2]
              · cases h
            | cons _ _ => simp at ha
      · cases h
    · cases h
  | _ => cases h

/-! ### Protected memory that an operation lays -/
def Lays (P : Program) (im : Im) (w : World) (x : Sem Value) (av : AV) : Prop := ∃ v im' w', x.run P w = .ok v w' ∧ Ok (here im w []) im' w' [] ∧ Rep im' av v

theorem lays_block (himr : Imr im w) (vs : Array Value) (T : TypeId) (fz : Nat × Nat)
    (h1 : ∀ (i : Nat) (v : Value), vs[i]? = some v → v.oneCell' = true) :
    Ok (here im w []) (protect im w.heap.size vs) (w.alloc (.cells vs T fz)) [] ∧ Le im (protect im w.heap.size vs) ∧
      ∀ i v, vs[i]? = some v → protect im w.heap.size vs w.heap.size i = some v := by
  have hn := im_none himr (Nat.le_refl w.heap.size)
  refine ⟨(Ok.alloc himr _).protect _ vs T fz (heap_new w _) h1 hn (by simp [keys]) (.inr (Nat.le_refl _)), protect_le hn, fun i v hv => ?_⟩
  have := (Array.getElem?_eq_some_iff.1 hv).1
  simp only [protect, if_true, this]; exact hv

def boxA (x : AV) : Option AV := if x.ones = true then some (.rp x.cells) else none

theorem boxA_sound {t : TypeId} {x av : AV} {u : Value} (h : boxA x = some av) (hx : Rep im x u) (himr : Imr im w) :
    Lays P im w (Instr.box t u) av := by
  simp only [boxA] at h
  split at h
  · rename_i ho
    cases h
    obtain ⟨⟨hl, hr⟩, h1⟩ := ones_cells ho hx
    obtain ⟨k1, k2, k3⟩ := lays_block himr u.cells t (0, 0) h1
    refine ⟨.pointer (some ⟨w.heap.size, 0, none⟩), _, _, rfl, k1, ?_⟩
    have hget : ∀ i c, x.cells[i]? = some c → u.cells[i]? = some (u.cells.getD i undef) := by
      intro i c hi
      have : i < u.cells.size := by rw [hl]; exact (List.getElem?_eq_some_iff.1 hi).1
      simp [this]
    refine .rp _ _ 0 (fun i => u.cells.getD i undef) (fun i c hi => ?_) (fun i c hi => ?_)
    · rw [Nat.zero_add]; exact k3 _ _ (hget i c hi)
    · exact (hr i c _ hi (hget i c hi)).mono k2
  · cases h
end
end Go.Proofs.YtjhnabdcmfjeoaaGreatDoor.Ab
/- Operations that make or write memory of the call's own; the contract of a call. Own work; a plain theory over any program. -/
set_option linter.unusedVariables false
set_option linter.unusedSimpArgs false
namespace Go.Proofs.YtjhnabdcmfjeoaaGreatDoor.Ab
open Go

section
variable {P : Program} {im : Im} {w : World}

/-- A computation goes from the heap H to a heap and a value that R tells. -/
def Goes (P : Program) (im : Im) (w : World) (H : AHeap) (x : Sem Value) (R : AV → AHeap → Prop) : Prop :=
  ∃ v im' w' av H', x.run P w = .ok v w' ∧ Ok (here im w H) im' w' H' ∧ Rep im' av v ∧ R av H'


theorem cells_m (himr : Imr im w) {b : Nat} {vs : Array Value} {T : TypeId} {fz : Nat × Nat} (h : w.heap[b]? = some (.cells vs T fz)) : im.m b = none := by
  cases e : im.m b with
  | none => rfl
  | some x => have := himr.m b x e; rw [h] at this; cases this

/-! #### alloc, box -/
theorem zero_run {t : TypeId} (h : (tyI P t).zero.length ≠ 0) (w : World) : ∃ z, (zeroValue t).run P w = .ok z w ∧ z.cells.toList = (tyI P t).zero ∧ (∃ i, P.info? t = some i ∧ i.zero = some z) := by
  cases hi : P.info? t with
  | none => simp [tyI, hi] at h
  | some i =>
    cases hz : i.zero with
    | none => simp [tyI, hi, hz] at h
    | some z => exact ⟨z, by simp [zeroValue, typeInfo, hi, hz], by simp [tyI, hi, hz], i, rfl, hz⟩

theorem box_ok (himr : Imr im w) (l : Nat) (T : TypeId) (vs : Array Value) (cs : List AV) (hl : vs.size = cs.length)
    (h : ∀ (i : Nat) (c : AV) (v : Value), cs[i]? = some c → vs[i]? = some v → Rep im c v ∧ v.oneCell' = true) :
    Ok (here im w []) im (w.alloc (.cells vs T)) [(l, .box w.heap.size T cs)] :=
  (Ok.alloc himr _).add l _ ⟨vs, heap_new w _, hl, h, im_none himr (Nat.le_refl _)⟩ fun k hk => by
    cases hk
    exact ⟨.inr (Nat.le_refl _), by simp [keys]⟩

theorem alloc_goes {t : TypeId} (himr : Imr im w) (l : Nat) (h0 : (tyI P t).zero.length ≠ 0) (h1 : (tyI P t).zero.all Value.oneCell' = true) :
    Goes P im w [] (Instr.alloc t true (.tuple #[])) fun av H => ∃ b, av = .ptr l b 0 ∧ H = [(l, .box b t ((tyI P t).zero.map .s))] := by
  obtain ⟨z, hz, hc, _⟩ := zero_run (P := P) h0 w
  refine ⟨.pointer (some ⟨w.heap.size, 0, none⟩), im, w.alloc (.cells z.cells t), .ptr l w.heap.size 0, _, ?_, box_ok himr l t z.cells ((tyI P t).zero.map .s) ?_ ?_, .ptr .., w.heap.size, rfl, rfl⟩
  · simp only [Instr.alloc, Sem.run_bind, hz, Result.andThen_ok]; rfl
  · rw [← hc]; simp
  · intro i c v hi hv
    rw [← hc, List.getElem?_map, Array.getElem?_toList, hv] at hi
    cases hi
    refine ⟨.s v, ?_⟩
    rw [← hc] at h1
    exact List.all_eq_true.1 h1 v (by simpa using Array.mem_of_getElem? hv)

theorem box_goes {t : TypeId} {x : AV} {u : Value} (himr : Imr im w) (l : Nat) (ho : x.ones = true) (hx : Rep im x u) :
    Goes P im w [] (Instr.box t u) fun av H => ∃ b, av = .ptr l b 0 ∧ H = [(l, .box b t x.cells)] := by
  obtain ⟨⟨hl, hr⟩, h1⟩ := ones_cells ho hx
  exact ⟨.pointer (some ⟨w.heap.size, 0, none⟩), im, w.alloc (.cells u.cells t), .ptr l w.heap.size 0, _, rfl, box_ok himr l t u.cells x.cells hl (fun i c v hi hv => ⟨hr i c v hi hv, h1 i v hv⟩), .ptr .., w.heap.size, rfl, rfl⟩

/-! #### a store into a box -/
theorem Ok.row {r r' : Res} {l l' : Nat} {b : Nat} {im' : Im} {w' : World} (himr : Imr im w) (hk : r.key = some b) (hk' : r'.key = some b) (hr : ResOk im w r) (hr' : ResOk im' w' r')
    (h1 : w'.os = w.os) (h2 : w'.tape = w.tape) (h3 : w'.output = w.output) (h4 : w'.heap.size = w.heap.size) (h5 : ∀ k, k ≠ b → w'.heap[k]? = w.heap[k]?)
    (h6 : ∀ k, k ≠ b → ∀ o, im' k o = im k o) (h7 : Le im im') (h9 : im'.m = im.m) (h10 : im.m b = none) (h8 : ∀ o v, im' b o = some v → w'.cell? ⟨b, o, none⟩ = some v ∧ v.oneCell' = true) :
    Ok (here im w [(l, r)]) im' w' [(l', r')] where
  os := h1
  tape := h2
  output := h3
  size := by rw [h4]; exact Nat.le_refl _
  frame := fun k hk1 hk2 => by
    have hne : k ≠ b := fun e => hk2 (by subst e; simp [here, keys, hk])
    exact ⟨h5 k hne, h6 k hne, by rw [h9]; rfl⟩
  le := h7
  imr := ⟨fun k o v hv => by
    by_cases e : k = b
    · subst e; exact h8 o v hv
    · rw [h6 k e] at hv
      obtain ⟨a1, a2⟩ := himr.c k o v hv
      refine ⟨?_, a2⟩
      simp only [World.cell?, h5 k e] at a1 ⊢
      exact a1, fun k x hx => by
    rw [h9] at hx
    have hne : k ≠ b := fun e => by subst e; rw [h10] at hx; cases hx
    rw [h5 k hne]; exact himr.m k x hx⟩
  own := fun x hx => by simp at hx; subst hx; exact hr'
  fresh := fun k hk1 => by
    obtain ⟨x, hx, hxk⟩ := mem_keys.1 hk1
    simp at hx; subst hx
    rw [hk'] at hxk; cases hxk
    exact .inl (by simp [here, keys, hk])
  nodup := by simp [keys, hk']

theorem store_goes {t T : TypeId} {l b off : Nat} {cs : List AV} {x : AV} {u : Value} (himr : Imr im w) (hr : ResOk im w (.box b T cs)) (ho : x.ones = true) (hx : Rep im x u)
    (hsz : x.cells.length = (tyI P t).size) (hpos : 0 < (tyI P t).size) (hfit : off + x.cells.length ≤ cs.length) :
    ∃ w', (Instr.storeAt t (.pointer (some ⟨b, off, none⟩)) u).run P w = .ok () w' ∧ Ok (here im w [(l, .box b T cs)]) im w' [(l, .box b T (putCells cs off x.cells))] := by
  obtain ⟨⟨hl, hrep⟩, h1⟩ := ones_cells ho hx
  obtain ⟨vs, hw, hvl, hvr, hn⟩ := id hr
  have hlen : u.cells.toList.length = x.cells.length := by simpa using hl
  have hrun := run_storeCells_at P b off T u.cells.toList 0 vs w hw (by rw [hlen, hvl]; omega) (fun v hv => by
    obtain ⟨i, hi⟩ := List.mem_iff_getElem?.1 hv
    exact h1 i v (by simpa using hi))
  simp only [Nat.add_zero] at hrun
  have hb : b < w.heap.size := (Array.getElem?_eq_some_iff.1 hw).1
  generalize hrow : (List.take off vs.toList ++ u.cells.toList ++ List.drop (off + u.cells.toList.length) vs.toList).toArray = row at hrun
  refine ⟨w.setRow b row, ?_, Ok.row himr rfl rfl hr ⟨row, setRow_heap w b vs row T (0, 0) hw, ?_, ?_, hn⟩ rfl rfl rfl (size_setRow ..) (fun k hk => setRow_other w b k _ hk) (fun _ _ _ => rfl) (Le.refl _) rfl (cells_m himr hw) (fun o v hv => by rw [hn] at hv; cases hv)⟩
  · have hs : u.cells.size = P.cellsOf t := by rw [hl, hsz]; rfl
    simp only [Instr.storeAt, Instr.sureAddr, storeVar, pure_bind, Sem.run_bind, run_sizeOf' (P := P) (t := t) hpos, Result.andThen_ok, hs, ne_eq, not_true_eq_false, if_false]
    exact hrun
  · rw [← hrow]
    simp only [List.size_toArray, List.length_append, List.length_take, List.length_drop, Array.length_toList, putCells, hvl, hlen]
  · intro i c v hi hv
    have hspl := splice_rep (cs := cs) (vs := x.cells) (arr := vs) (v := u.cells) (off := off) ⟨hvl, fun i c v a b => (hvr i c v a b).1⟩ ⟨hl, hrep⟩ hfit
    rw [← hrow] at hv
    simp only [List.getElem?_toArray, List.append_assoc] at hv
    simp only [putCells, List.append_assoc] at hi
    by_cases c1 : i < off
    · rw [List.getElem?_append_left (by simp; omega), List.getElem?_take, if_pos c1] at hi hv
      exact hvr i c v hi (by simpa using hv)
    · have e1 : (List.take off cs).length = off := by simp; omega
      have e2 : (List.take off vs.toList).length = off := by simp; omega
      rw [List.getElem?_append_right (by omega)] at hi hv
      rw [e1] at hi; rw [e2] at hv
      by_cases c2 : i - off < x.cells.length
      · rw [List.getElem?_append_left (by omega)] at hi hv
        exact ⟨hrep _ c v hi (by simpa using hv), h1 _ v (by simpa using hv)⟩
      · rw [List.getElem?_append_right (by omega), List.getElem?_drop] at hi hv
        rw [hlen] at hv
        refine hvr _ c v hi ?_
        rw [← Array.getElem?_toList, ← hv]
end
end Go.Proofs.YtjhnabdcmfjeoaaGreatDoor.Ab
