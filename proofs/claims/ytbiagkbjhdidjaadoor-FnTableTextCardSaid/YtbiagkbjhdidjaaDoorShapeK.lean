/-
  Plain lemmas: what 'Enc.rd' says of a slice, spelled as a walk reads it (one cell an element, or several), and small words for contracts. No program is named here.
-/
import Derived.Test.YtbiagkbjhdidjaaDoorEncK
namespace Go.Proofs.YtbiagkbjhdidjaaDoor
open Go.RowKit

section
variable {α : Type} {E : Enc α} {ty : TypeId} {w : World} {B : Nat} {v : Value} {l : List α}

/-- A slice whose elements are one cell each. -/
theorem rd_slice1 [Inhabited α] (hs : E.size = 1) (h : (sliceE E ty).rd w B [v] l) :
    ∃ a cap, v = .slice a l.length cap ∧ l.length ≤ cap ∧ cap ≤ 9223372036854775807 ∧ (a = none → cap = 0) ∧
      ∀ k, k < l.length → ∃ b o vk, a = some ⟨b, o, none⟩ ∧ b < B ∧ w.cell? ⟨b, o + k, none⟩ = some vk ∧ E.rd w B [vk] (l[k]?.getD default) := by
  obtain ⟨a, cap, hv, h1, h2, h3, h4⟩ := h
  obtain rfl : v = .slice a l.length cap := by simpa using hv
  refine ⟨a, cap, rfl, h1, by simpa [maxLen] using h2, h3, fun k hk => ?_⟩
  have hx : l[k]? = some (l[k]?.getD default) := by simp [List.getElem?_eq_getElem hk]
  obtain ⟨b, o, xs, e1, e2, e3, e4⟩ := h4 k _ hx
  have hl := E.rd_len e3
  rw [hs] at hl
  match xs, hl with
  | [vk], _ =>
    have := e4 0 vk rfl
    rw [hs] at this
    exact ⟨b, o, vk, e1, e2, by simpa using this, e3⟩

theorem rd_slice (h : (sliceE E ty).rd w B [v] l) : ∃ a n c, v = .slice a n c := by
  obtain ⟨a, cap, hv, _⟩ := h
  exact ⟨a, _, cap, by simpa using hv⟩

theorem rd_ints {l : List Int} (h : (sliceE intE ty).rd w B [v] l) :
    ∃ a cap, v = .slice a l.length cap ∧ l.length ≤ cap ∧ cap ≤ 9223372036854775807 ∧ (a = none → cap = 0) ∧
      ∀ k, k < l.length → ∃ b o, a = some ⟨b, o, none⟩ ∧ b < B ∧ w.cell? ⟨b, o + k, none⟩ = some (.int .i64 (l[k]?.getD 0)) ∧ -9223372036854775808 ≤ l[k]?.getD 0 ∧ l[k]?.getD 0 ≤ 9223372036854775807 := by
  obtain ⟨a, cap, h1, h2, h3, h4, h5⟩ := rd_slice1 rfl h
  refine ⟨a, cap, h1, h2, h3, h4, fun k hk => ?_⟩
  obtain ⟨b, o, vk, e1, e2, e3, e4⟩ := h5 k hk
  obtain ⟨e5, e6⟩ := e4
  simp only [List.cons.injEq, and_true] at e5
  subst e5
  exact ⟨b, o, e1, e2, e3, e6⟩

theorem rd_bools {l : List Bool} (h : (sliceE boolE ty).rd w B [v] l) :
    ∃ a cap, v = .slice a l.length cap ∧ l.length ≤ cap ∧ cap ≤ 9223372036854775807 ∧ (a = none → cap = 0) ∧
      ∀ k, k < l.length → ∃ b o, a = some ⟨b, o, none⟩ ∧ b < B ∧ w.cell? ⟨b, o + k, none⟩ = some (.bool (l[k]?.getD false)) := by
  obtain ⟨a, cap, h1, h2, h3, h4, h5⟩ := rd_slice1 rfl h
  refine ⟨a, cap, h1, h2, h3, h4, fun k hk => ?_⟩
  obtain ⟨b, o, vk, e1, e2, e3, e4⟩ := h5 k hk
  have e5 : [vk] = [Value.bool (l[k]?.getD default)] := e4
  simp only [List.cons.injEq, and_true] at e5
  subst e5
  exact ⟨b, o, e1, e2, e3⟩

theorem rd_strs {l : List ByteArray} (h : (sliceE strE ty).rd w B [v] l) :
    ∃ a cap, v = .slice a l.length cap ∧ l.length ≤ cap ∧ cap ≤ 9223372036854775807 ∧ (a = none → cap = 0) ∧
      ∀ k, k < l.length → ∃ b o, a = some ⟨b, o, none⟩ ∧ b < B ∧ w.cell? ⟨b, o + k, none⟩ = some (.string (l[k]?.getD ByteArray.empty)) ∧ (l[k]?.getD ByteArray.empty).size ≤ 9223372036854775807 := by
  obtain ⟨a, cap, h1, h2, h3, h4, h5⟩ := rd_slice1 (E := strE) rfl h
  refine ⟨a, cap, h1, h2, h3, h4, fun k hk => ?_⟩
  obtain ⟨b, o, vk, e1, e2, e3, e4⟩ := h5 k hk
  obtain ⟨e5, e6⟩ := e4
  simp only [List.cons.injEq, and_true] at e5
  subst e5
  exact ⟨b, o, e1, e2, e3, e6⟩
end

theorem len_le {α : Type} {E : Enc α} {ty : TypeId} {w : World} {B : Nat} {cs : List Value} {l : List α} (h : (sliceE E ty).rd w B cs l) : l.length ≤ 9223372036854775807 := by
  obtain ⟨a, cap, _, h1, h2, _⟩ := h
  simp [maxLen] at h2
  omega

/-- A call that only reads: it hands back v; memory that was there is as it was. -/
def Gives (v : Value) (w : World) (e : Ending) (w' : World) : Prop := e = .returned v ∧ Below w.heap.size w w'

/-- A call that hands back v and leaves the world as it was. -/
def Keeps (v : Value) (w : World) (e : Ending) (w' : World) : Prop := e = .returned v ∧ w = w'

/-- A call that hands back a value of one cell, of new memory ('f': the value among the results). -/
def Makes {α : Type} (E : Enc α) (f : Value → Value) (a : α) (w : World) (e : Ending) (w' : World) : Prop :=
  ∃ v fp, e = .returned (f v) ∧ E.ow w' [v] a fp ∧ fp.Nodup ∧ (∀ b, b ∈ fp → w.heap.size ≤ b) ∧ Below w.heap.size w w'

/-- The same of a struct. -/
def MakesS {α : Type} (E : Enc α) (f : Value → Value) (a : α) (w : World) (e : Ending) (w' : World) : Prop :=
  ∃ cs fp, e = .returned (f (.agg cs.toArray)) ∧ E.ow w' cs a fp ∧ fp.Nodup ∧ (∀ b, b ∈ fp → w.heap.size ≤ b) ∧ Below w.heap.size w w'

/-- Every block but those of a list is as it was. -/
structure But (fp : List Nat) (w w' : World) : Prop where
  os : w'.os = w.os
  tape : w'.tape = w.tape
  output : w'.output = w.output
  size : w.heap.size ≤ w'.heap.size
  block : ∀ k, k < w.heap.size → k ∉ fp → w'.heap[k]? = w.heap[k]?

theorem But.below {fp : List Nat} {w w' : World} {B : Nat} (h : But fp w w') (hB : ∀ b, b ∈ fp → B ≤ b) (hs : B ≤ w.heap.size) : Below B w w' :=
  ⟨h.os, h.tape, h.output, h.size, fun k hk => h.block k (by omega) (fun hm => by have := hB k hm; omega)⟩

theorem ownsRow_zero {w : World} {base : Nat} {e : TypeId} {size : Nat} {v : Value} {n : Nat} {xs : List Value} (h : w.ownsRow base e size v n xs) : w.ownsRow 0 e size v n xs := by
  refine ⟨h.1, ?_⟩
  rcases h.2 with h | ⟨g, cap, cur, h1, _, h2⟩
  · exact .inl h
  · exact .inr ⟨g, cap, cur, h1, Nat.zero_le _, h2⟩

theorem flat_ones (vs : List Value) : (vs.map fun v => [v]).flatten = vs := by
  induction vs with
  | nil => rfl
  | cons v vs ih => simp [ih]

/-- A slice of elements of one cell that lead nowhere. -/
theorem ow_flat {α : Type} {E : Enc α} {ty : TypeId} {w : World} {v : Value} {l : List α} {base : Nat} (f : α → Value) (hE : E.size = 1) (hf : ∀ x, x ∈ l → E.ow w [f x] x []) (h : w.ownsRow base ty 1 v l.length (l.map f)) :
    (sliceE E ty).ow w [v] l v.ownBlock.toList := by
  refine ⟨v, (l.map f).map fun v => [v], l.map fun _ => [], rfl, ?_, ?_, ?_⟩
  · clear h
    induction l with
    | nil => exact .nil
    | cons a l ih => exact .cons (hf a (by simp)) (ih fun x hx => hf x (by simp [hx]))
  · rw [hE, flat_ones]; exact ownsRow_zero h
  · have : (l.map fun _ => ([] : List Nat)).flatten = [] := by simp
    rw [this, List.append_nil]

/-- A slice of elements of one cell. -/
theorem ow_ones {α : Type} {E : Enc α} {ty : TypeId} {w : World} {v : Value} {l : List α} {vs : List Value} {fps : List (List Nat)} {base : Nat} (hE : E.size = 1) (hf : OwAll E w l (vs.map fun v => [v]) fps)
    (h : w.ownsRow base ty 1 v l.length vs) : (sliceE E ty).ow w [v] l (v.ownBlock.toList ++ fps.flatten) :=
  ⟨v, vs.map fun v => [v], fps, rfl, hf, by rw [hE, flat_ones]; exact ownsRow_zero h, rfl⟩

theorem ownsRow_cells {w : World} {base : Nat} {e : TypeId} {size : Nat} {v : Value} {n : Nat} {xs : List Value} (h : w.ownsRow base e size v n xs) : v.cells.toList = [v] := by
  rcases h.2 with ⟨rfl, _⟩ | ⟨g, cap, cur, rfl, _⟩ <;> rfl

theorem ow_shape {α : Type} {E : Enc α} {ty : TypeId} {w : World} {v : Value} {l : List α} {fp : List Nat} (h : (sliceE E ty).ow w [v] l fp) : ∃ a c, v = .slice a l.length c := by
  obtain ⟨v', xss, fps, hv, _, h2, _⟩ := h
  obtain rfl : v = v' := by simpa using hv
  rcases h2.2 with ⟨rfl, hn⟩ | ⟨g, cap, cur, rfl, _⟩
  · exact ⟨none, 0, by rw [hn]⟩
  · exact ⟨_, _, rfl⟩

theorem ow_slice {α : Type} {E : Enc α} {ty : TypeId} {w : World} {v : Value} {l : List α} {fp : List Nat} (h : (sliceE E ty).ow w [v] l fp) : ∃ a n c, v = .slice a n c := by
  obtain ⟨a, c, h⟩ := ow_shape h
  exact ⟨a, _, c, h⟩

theorem get_some {α : Type} (d : α) {l : List α} {k : Nat} (h : k < l.length) : l[k]? = some (l[k]?.getD d) := by simp [List.getElem?_eq_getElem h]

theorem nodup_option (o : Option Nat) : o.toList.Nodup := by cases o <;> simp

/-- The end of a walk that hands back a slice of its own, of elements of one cell that lead nowhere. -/
theorem makes_flat {α : Type} {E : Enc α} {ty : TypeId} {w wr : World} {v : Value} {l : List α} {g : Nat} (f : α → Value) (hE : E.size = 1) (hf : ∀ x, x ∈ l → E.ow wr [f x] x []) (h : wr.ownsRow g ty 1 v l.length (l.map f))
    (hB : Below g w wr) (hg : g = w.heap.size) : Makes (sliceE E ty) id l w (.returned v) wr := by
  subst hg
  refine ⟨v, v.ownBlock.toList, rfl, ?_, nodup_option _, ?_, hB⟩
  · exact ow_flat f hE hf h
  · intro b hb
    exact (h.lt b (by simpa using hb)).1

/-- make([]T, n), n one of the walk's numbers, T of one cell. -/
theorem make_run {P : Program} {t e : TypeId} {i : TypeInfo} {z : Value} (ht : P.underlying t = some (.slice e)) (hi : P.info? e = some i) (hz : i.zero = some z) (hs : i.size = 1) (n : Nat) (hb : i.bytes * n ≤ 281474976710656) (hn : n ≤ 9223372036854775807) (w : World) :
    (Instr.makeSlice t (.int .i64 (n : Int)) (.int .i64 (n : Int))).run P w = .ok (.slice (some ⟨w.heap.size, 0, none⟩) n n) (w.alloc (.cells (madeCells z.cells n) e)) := by
  have hb' : (i.bytes : Int) * (n : Int) ≤ 281474976710656 := by
    have h : ((i.bytes * n : Nat) : Int) ≤ 281474976710656 := by omega
    rwa [Int.natCast_mul] at h
  have := run_make w t e i z ht hi hz .i64 .i64 n n (by omega) (by omega) hb' (by omega)
  rw [this]
  simp [hs]

theorem made_owns {w : World} {ty : TypeId} (z : Value) (n : Nat) (hn : n ≤ maxLen) : (w.alloc (.cells (madeCells #[z] n) ty)).ownsRow w.heap.size ty 1 (.slice (some ⟨w.heap.size, 0, none⟩) n n) n (List.replicate n z) := by
  have := World.ownsRow_lit (e := ty) (size := 1) w (madeCells #[z] n) n (Nat.le_refl _) hn (by simp [size_madeCells])
  rwa [toList_madeCells_one] at this

theorem ownsRow_below {w w' : World} {base : Nat} {e : TypeId} {size : Nat} {v : Value} {n : Nat} {xs : List Value} (h : w.ownsRow base e size v n xs) (hb : Below w.heap.size w w') : w'.ownsRow base e size v n xs :=
  h.kept (row := none) ⟨hb.os, hb.tape, hb.output, hb.size, fun k hk _ => hb.block k hk⟩ (by cases hv : v.ownBlock <;> simp)

/-- A row of n cells of its own (block g), of which the first k have been filled, each with a value that leads to blocks of its own. -/
def Spine {α : Type} (E : Enc α) (ty : TypeId) (g n : Nat) (z : Value) (l : List α) (k : Nat) (w0 wr : World) : Prop :=
  ∃ vs fps, vs.length = k ∧ wr.ownsRow g ty 1 (.slice (some ⟨g, 0, none⟩) n n) n (vs ++ List.replicate (n - k) z) ∧ OwAll E wr (l.take k) (vs.map fun v => [v]) fps ∧ fps.flatten.Nodup ∧ (∀ b, b ∈ fps.flatten → g < b) ∧ Below g w0 wr

section
variable {α : Type} {E : Enc α} {ty : TypeId} {g n k : Nat} {z : Value} {l : List α} {w0 wr : World}

theorem Spine.start (h : wr.ownsRow g ty 1 (.slice (some ⟨g, 0, none⟩) n n) n (List.replicate n z)) (hB : Below g w0 wr) : Spine E ty g n z l 0 w0 wr :=
  ⟨[], [], rfl, by simpa using h, by simpa using OwAll.nil, by simp, by simp, hB⟩

theorem Spine.below (h : Spine E ty g n z l k w0 wr) : Below g w0 wr := by
  obtain ⟨vs, fps, _, _, _, _, _, h⟩ := h
  exact h

theorem Spine.lt (h : Spine E ty g n z l k w0 wr) : g < wr.heap.size := by
  obtain ⟨vs, fps, _, h, _⟩ := h
  exact (h.lt g rfl).2

theorem Spine.cell (h : Spine E ty g n z l k w0 wr) (hk : k < n) {w1 : World} (hb : Below wr.heap.size wr w1) : w1.cell? ⟨g, k, none⟩ = some z ∧ w1.frozen? ⟨g, k, none⟩ = false := by
  obtain ⟨vs, fps, hl, h, _⟩ := h
  have h1 := ownsRow_below h hb
  refine ⟨?_, h1.frozenAt k⟩
  rw [h1.cellAt k (by omega), List.getElem?_append_right (by omega), hl, Nat.sub_self, List.getElem?_replicate, if_pos (by omega)]

theorem Spine.step (h : Spine E ty g n z l k w0 wr) (hk : k < n) {w1 : World} (hb : Below wr.heap.size wr w1) {x : α} (hx : l[k]? = some x) {v : Value} {fp : List Nat} (ho : E.ow w1 [v] x fp) (hn : fp.Nodup)
    (hf : ∀ b, b ∈ fp → wr.heap.size ≤ b) : Spine E ty g n z l (k + 1) w0 (w1.setCell ⟨g, k, none⟩ v) := by
  have hgl := h.lt
  obtain ⟨vs, fps, hl, h1, h2, h3, h4, h5⟩ := h
  have hd : ∀ b, b ∈ fps.flatten → b < wr.heap.size := h2.lt
  refine ⟨vs ++ [v], fps ++ [fp], by simp [hl], ?_, ?_, ?_, ?_, ?_⟩
  · have := ((ownsRow_below h1 hb).stored k v).1
    have e : (vs ++ List.replicate (n - k) z).set k v = vs ++ [v] ++ List.replicate (n - (k + 1)) z := by
      rw [List.set_append_right _ _ (by omega), hl, Nat.sub_self, show n - k = (n - (k + 1)) + 1 from by omega, List.replicate_succ]
      simp
    rwa [e] at this
  · have hkl : k < l.length := (List.getElem?_eq_some_iff.1 hx).1
    have hx' : l[k] = x := (List.getElem?_eq_some_iff.1 hx).2
    rw [List.take_succ_eq_append_getElem hkl, hx', List.map_append]
    refine (h2.frame fun b hm => ?_).append (OwAll.one (E.ow_frame (fun b hm => ?_) ho))
    · have hne : b ≠ g := by have := h4 b hm; omega
      rw [Below.heap_setCell _ _ _ _ (by simpa using hne)]
      exact hb.block b (hd b hm)
    · have hne : b ≠ g := by have := hf b hm; omega
      rw [Below.heap_setCell _ _ _ _ (by simpa using hne)]
  · rw [List.flatten_append, List.nodup_append]
    refine ⟨h3, by simpa using hn, fun a ha b hb' e => ?_⟩
    have h6 := hd a ha
    have h7 := hf b (by simpa using hb')
    omega
  · intro b hm
    rw [List.flatten_append] at hm
    rcases List.mem_append.1 hm with hm | hm
    · exact h4 b hm
    · have := hf b (by simpa using hm)
      omega
  · exact (h5.trans (hb.mono (by omega))).setCell (Nat.le_refl _) _

theorem Spine.done (h : Spine E ty g n z l n w0 wr) (hE : E.size = 1) (hn : n = l.length) (hg : g = w0.heap.size) : Makes (sliceE E ty) id l w0 (.returned (.slice (some ⟨g, 0, none⟩) n n)) wr := by
  subst hn
  obtain ⟨vs, fps, hl, h1, h2, h3, h4, h5⟩ := h
  rw [List.take_length] at h2
  rw [Nat.sub_self, List.replicate_zero, List.append_nil] at h1
  refine ⟨_, g :: fps.flatten, rfl, ow_ones hE h2 h1, ?_, ?_, hg ▸ h5⟩
  · rw [List.nodup_cons]
    exact ⟨fun hm => by have := h4 g hm; omega, h3⟩
  · intro b hm
    rcases List.mem_cons.1 hm with rfl | hm
    · omega
    · have := h4 b hm
      omega
end

/-- Block b holds these cells, and may be written. -/
def Blk (w : World) (b : Nat) (cs : List Value) (ty : TypeId) : Prop := w.heap[b]? = some (.cells cs.toArray ty (0, 0))

section
variable {w w' : World} {b : Nat} {cs : List Value} {ty : TypeId}

theorem Blk.lt (h : Blk w b cs ty) : b < w.heap.size := (Array.getElem?_eq_some_iff.1 h).1
theorem Blk.new (w : World) (cs : Array Value) (ty : TypeId) : Blk (w.alloc (.cells cs ty)) w.heap.size cs.toList ty := by
  unfold Blk; rw [heap_alloc_new]
theorem Blk.alloc (h : Blk w b cs ty) (o : Obj) : Blk (w.alloc o) b cs ty := by
  unfold Blk; rw [Below.heap_alloc w o b h.lt]; exact h
theorem Blk.of {B : Nat} (h : Blk w b cs ty) (hb : Below B w w') (hB : b < B) : Blk w' b cs ty := by
  unfold Blk; rw [hb.block b hB]; exact h
theorem Blk.same (h : Blk w b cs ty) (hb : w'.heap[b]? = w.heap[b]?) : Blk w' b cs ty := by
  unfold Blk; rw [hb]; exact h
theorem Blk.set (h : Blk w b cs ty) (i : Nat) (v : Value) : Blk (w.setCell ⟨b, i, none⟩ v) b (cs.set i v) ty := by
  unfold Blk; rw [heap_setCell_same w b i cs.toArray ty v h]; simp
theorem Blk.other (h : Blk w b cs ty) {a : Addr} (ha : b ≠ a.block) (v : Value) : Blk (w.setCell a v) b cs ty := by
  unfold Blk; rw [Below.heap_setCell _ _ _ _ ha]; exact h
theorem Blk.cell (h : Blk w b cs ty) (i : Nat) {v : Value} (hv : cs[i]? = some v) : w.cell? ⟨b, i, none⟩ = some v := by
  have : w.heap[b]? = some (.cells cs.toArray ty (0, 0)) := h
  simp [World.cell?, this, hv]
theorem Blk.free (h : Blk w b cs ty) (i : Nat) : w.frozen? ⟨b, i, none⟩ = false := frozen_of_row w b i _ _ h
end

theorem blk1 {w w' : World} {c0 : Array Value} {t0 : TypeId} (h : w.alloc (.cells c0 t0) = w') : Blk w' w.heap.size c0.toList t0 ∧ Below w.heap.size w w' := by
  subst h
  exact ⟨Blk.new _ _ _, (Below.refl _ _).alloc (Nat.le_refl _) _⟩

theorem blk2 {w w' : World} {c0 c1 : Array Value} {t0 t1 : TypeId} (h : (w.alloc (.cells c0 t0)).alloc (.cells c1 t1) = w') :
    Blk w' w.heap.size c0.toList t0 ∧ Blk w' (w.heap.size + 1) c1.toList t1 ∧ Below w.heap.size w w' := by
  obtain ⟨h0, h1⟩ := blk1 (rfl : w.alloc (.cells c0 t0) = _)
  obtain ⟨h2, h3⟩ := blk1 h
  rw [World.size_alloc] at h2 h3
  exact ⟨h0.of h3 (by omega), h2, h1.trans (h3.mono (by omega))⟩

theorem blk3 {w w' : World} {c0 c1 c2 : Array Value} {t0 t1 t2 : TypeId} (h : ((w.alloc (.cells c0 t0)).alloc (.cells c1 t1)).alloc (.cells c2 t2) = w') :
    Blk w' w.heap.size c0.toList t0 ∧ Blk w' (w.heap.size + 1) c1.toList t1 ∧ Blk w' (w.heap.size + 1 + 1) c2.toList t2 ∧ Below w.heap.size w w' := by
  obtain ⟨h0, h1, h2⟩ := blk2 (rfl : (w.alloc (.cells c0 t0)).alloc (.cells c1 t1) = _)
  obtain ⟨h3, h4⟩ := blk1 h
  rw [World.size_alloc, World.size_alloc] at h3 h4
  exact ⟨h0.of h4 (by omega), h1.of h4 (by omega), h3, h2.trans (h4.mono (by omega))⟩

theorem blk4 {w w' : World} {c0 c1 c2 c3 : Array Value} {t0 t1 t2 t3 : TypeId} (h : (((w.alloc (.cells c0 t0)).alloc (.cells c1 t1)).alloc (.cells c2 t2)).alloc (.cells c3 t3) = w') :
    Blk w' w.heap.size c0.toList t0 ∧ Blk w' (w.heap.size + 1) c1.toList t1 ∧ Blk w' (w.heap.size + 1 + 1) c2.toList t2 ∧ Blk w' (w.heap.size + 1 + 1 + 1) c3.toList t3 ∧ Below w.heap.size w w' := by
  obtain ⟨h0, h1, h2, h5⟩ := blk3 (rfl : ((w.alloc (.cells c0 t0)).alloc (.cells c1 t1)).alloc (.cells c2 t2) = _)
  obtain ⟨h3, h4⟩ := blk1 h
  rw [World.size_alloc, World.size_alloc, World.size_alloc] at h3 h4
  exact ⟨h0.of h4 (by omega), h1.of h4 (by omega), h2.of h4 (by omega), h3, h5.trans (h4.mono (by omega))⟩

theorem But.refl (fp : List Nat) (w : World) : But fp w w := ⟨rfl, rfl, rfl, Nat.le_refl _, fun _ _ _ => rfl⟩
theorem But.setCell {fp : List Nat} {w w' : World} (h : But fp w w') {a : Addr} (ha : a.block ∈ fp) (v : Value) : But fp w (w'.setCell a v) :=
  ⟨h.os, h.tape, h.output, by simpa using h.size, fun k hk hn => by rw [Below.heap_setCell _ _ _ _ (fun e => hn (by rw [e]; exact ha))]; exact h.block k hk hn⟩
theorem But.trans {fp : List Nat} {w w' w'' : World} (h : But fp w w') (k : But fp w' w'') : But fp w w'' :=
  ⟨k.os.trans h.os, k.tape.trans h.tape, k.output.trans h.output, Nat.le_trans h.size k.size, fun i hi hn => (k.block i (Nat.lt_of_lt_of_le hi h.size) hn).trans (h.block i hi hn)⟩
theorem But.of_below {fp : List Nat} {w w' : World} (h : Below w.heap.size w w') : But fp w w' := ⟨h.os, h.tape, h.output, h.size, fun k hk _ => h.block k hk⟩
theorem Enc.ow_but {α : Type} (E : Enc α) {w w' : World} {cs : List Value} {a : α} {fp fq : List Nat} (h : E.ow w cs a fp) (hb : But fq w w') (hd : ∀ b, b ∈ fp → b ∉ fq) : E.ow w' cs a fp :=
  E.ow_frame (fun b hm => hb.block b (E.ow_lt h b hm) (hd b hm)) h
theorem Blk.but {w w' : World} {b : Nat} {cs : List Value} {ty : TypeId} (h : Blk w b cs ty) {fq : List Nat} (hb : But fq w w') (hd : b ∉ fq) : Blk w' b cs ty := h.same (hb.block b h.lt hd)

theorem Below.lt {B : Nat} {w w' : World} (h : Below B w w') {b : Nat} (hb : b < w.heap.size) : b < w'.heap.size := Nat.lt_of_lt_of_le hb h.size

end Go.Proofs.YtbiagkbjhdidjaaDoor
