/-
  Plain lemmas: append on a slice of the call's own, its elements of whatever type ('Enc'); where the new slice lies. No program is named here.
-/
import Derived.Test.YtbiagkbjhdidjaaDoorShapeK
import Derived.Laws.AppendOwn
import Derived.Deep.AppendSrc
namespace Go.Proofs.YtbiagkbjhdidjaaDoor
open Go.RowKit

/-- What an append's second argument yields: nothing (nil), or so many elements behind an address. -/
def SrcS (w : World) (size : Nat) (x : Value) (m : Nat) (news : List Value) : Prop :=
  (∃ c, x = .slice none 0 c ∧ m = 0 ∧ news = []) ∨
    (∃ ad c, x = .slice (some ad) m c ∧ news.length = m * size ∧ (∀ j u, news[j]? = some u → w.cell? (ad.add j) = some u) ∧ ∀ u, u ∈ news → u.oneCell' = true)

theorem run_append_place {P : Program} (w : World) (t ty e : TypeId) (i : TypeInfo) (z : Value) (size bytes : Nat) (ht : P.underlying t = some (.slice e)) (hi : P.info? e = some i) (hz : i.zero = some z)
    (hsize : i.size = size) (hby : i.bytes = bytes) (hzs : z.cells.size = size) (hsz : 0 < size) (v : Value) (n : Nat) (xs : List Value) (hown : w.ownsRow 0 e size v n xs)
    (x : Value) (m : Nat) (news : List Value) (hs : SrcS w size x m news) (h63 : n + m ≤ maxLen) (hbytes : (n + m) * bytes ≤ 140737488355328) :
    ∃ v' w', (Builtin.append_ #[t, t] ty #[v, x]).run P w = .ok v' w' ∧ w'.ownsRow 0 e size v' (n + m) (xs ++ news) ∧ w.grownBy w' v.ownBlock ∧ (v'.ownBlock = v.ownBlock ∨ ∃ g, v'.ownBlock = some g ∧ w.heap.size ≤ g) ∧
      (v' = .slice none 0 0 ↔ v = .slice none 0 0 ∧ m = 0) := by
  rcases hs with ⟨c, rfl, rfl, rfl⟩ | ⟨ad, c, rfl, hl, hnews, h1⟩
  · refine ⟨v, w, ?_, by simpa using hown, ⟨rfl, rfl, rfl, Nat.le_refl _, fun _ _ _ => rfl⟩, .inl rfl, by simp⟩
    have hS : Src P size t (.slice none 0 c) 0 [] w := Src.ofNil w ht c
    subst hsize
    rcases hown.2 with ⟨rfl, rfl⟩ | ⟨g, cap, cur, rfl, _, hg, hnc, hcm, hcs, htake⟩
    · simp [Builtin.append_, run_underlying ht, sizeOf, typeInfo, hi, Builtin.lenOf, Builtin.firstCells]
    · have := run_append_room_src (P := P) w t t ty e i ht hi g 0 n cap (.slice none 0 c) 0 [] hS (by omega) (fun j hj => by simp at hj) (fun j hj => by simp at hj)
      simpa [World.setCells] using this
  · obtain ⟨v', w', hr, h2, h3, h4⟩ := run_append_own (P := P) w 0 t ty e i z size bytes ht hi hz hsize hby hzs hsz v n xs hown ad m c news hl hnews h1 h63 hbytes (Nat.zero_le _)
    refine ⟨v', w', hr, h2, h3, ?_, h4⟩
    rcases hown.2 with ⟨rfl, rfl⟩ | ⟨g, cap, cur, rfl, _, hg, hnc, hcm, hcs, htake⟩
    · have hn : w.ownsRow w.heap.size e size (.slice none 0 0) 0 xs := ⟨hown.1, .inl ⟨rfl, rfl⟩⟩
      obtain ⟨v'', w'', hr', k2, -, -⟩ := run_append_own (P := P) w w.heap.size t ty e i z size bytes ht hi hz hsize hby hzs hsz _ 0 xs hn ad m c news hl hnews h1 h63 hbytes (Nat.le_refl _)
      rw [hr] at hr'
      obtain ⟨rfl, rfl⟩ : v' = v'' ∧ w' = w'' := by simpa using hr'
      rcases hv : v'.ownBlock with _ | g
      · exact .inl rfl
      · exact .inr ⟨g, rfl, (k2.lt g hv).1⟩
    · subst hsize
      by_cases hroom : n + m ≤ cap
      · have hfit : n * i.size + news.length ≤ cur.size := by rw [hl, hcs, ← Nat.add_mul]; exact Nat.mul_le_mul_right _ hroom
        have hr' := run_append_room (P := P) w t ty e i ht hi g n cap cur hg ad m c news hl hnews h1 hroom hfit
        rw [hr] at hr'
        obtain ⟨rfl, -⟩ : v' = _ ∧ w' = _ := by simpa using hr'
        exact .inl rfl
      · have holds : ∀ j u, xs[j]? = some u → w.cell? ((⟨g, 0, none⟩ : Addr).add j) = some u := hown.cells (g := g) rfl
        subst hby
        have hsm : n + m ≤ 9223372036854775807 := by simp only [maxLen] at h63; omega
        have hr' := run_append_grow (P := P) w t ty e i z ht hi hz ⟨g, 0, none⟩ n cap xs hown.1 holds ad m c news hl hnews (by omega) (by omega) (growslice_fits (by omega) hbytes)
        rw [hr] at hr'
        obtain ⟨rfl, -⟩ : v' = _ ∧ w' = _ := by simpa using hr'
        exact .inr ⟨_, rfl, Nat.le_refl _⟩

/-- append on a slice of one's own, the new elements with blocks of their own. -/
theorem own_append {α : Type} {E : Enc α} {ty : TypeId} {P : Program} (w : World) (t ry : TypeId) (i : TypeInfo) (z : Value) (bytes : Nat) (ht : P.underlying t = some (.slice ty)) (hi : P.info? ty = some i) (hz : i.zero = some z)
    (hsize : i.size = E.size) (hby : i.bytes = bytes) (hzs : z.cells.size = E.size) (hsz : 0 < E.size) {v : Value} {l : List α} {fp : List Nat} (hown : (sliceE E ty).ow w [v] l fp)
    (x : Value) {ys : List α} {css : List (List Value)} {fys : List (List Nat)} (hys : OwAll E w ys css fys) (hs : SrcS w E.size x ys.length css.flatten) (hd : (fp ++ fys.flatten).Nodup)
    (h63 : l.length + ys.length ≤ maxLen) (hbytes : (l.length + ys.length) * bytes ≤ 140737488355328) :
    ∃ v' w' fp', (Builtin.append_ #[t, t] ry #[v, x]).run P w = .ok v' w' ∧ (sliceE E ty).ow w' [v'] (l ++ ys) fp' ∧ fp'.Nodup ∧ (∀ b, b ∈ fp' → b ∈ fp ∨ b ∈ fys.flatten ∨ w.heap.size ≤ b) ∧ But fp w w' ∧
      (v' = .slice none 0 0 ↔ v = .slice none 0 0 ∧ ys.length = 0) := by
  obtain ⟨v0, xss, fps, hv, h1, h2, rfl⟩ := hown
  obtain rfl : v = v0 := by simpa using hv
  obtain ⟨v', w', hr, k1, k2, k3, k4⟩ := run_append_place (P := P) w t ry ty i z E.size bytes ht hi hz hsize hby hzs hsz v l.length xss.flatten h2 x ys.length css.flatten hs h63 hbytes
  have hlt1 := h1.lt
  have hlt2 := hys.lt
  rw [List.append_assoc, List.nodup_append] at hd
  obtain ⟨n1, n2, n3⟩ := hd
  have hfr : ∀ b, b ∈ fps.flatten ++ fys.flatten → w'.heap[b]? = w.heap[b]? := by
    intro b hb
    have hbl : b < w.heap.size := by
      rcases List.mem_append.1 hb with h | h
      · exact hlt1 b h
      · exact hlt2 b h
    refine k2.block b hbl (fun e => ?_)
    exact n3 b (by rw [← e]; simp) b hb rfl
  refine ⟨v', w', v'.ownBlock.toList ++ (fps ++ fys).flatten, hr, ⟨v', xss ++ css, fps ++ fys, rfl, ?_, ?_, rfl⟩, ?_, ?_, ?_, k4⟩
  · exact (h1.frame fun b hb => hfr b (List.mem_append_left _ hb)).append (hys.frame fun b hb => hfr b (List.mem_append_right _ hb))
  · rw [List.length_append, List.flatten_append]; exact k1
  · rw [List.nodup_append, List.flatten_append]
    refine ⟨nodup_option _, n2, fun a ha b hb e => ?_⟩
    subst e
    rcases k3 with k3 | ⟨g, k3, hg⟩
    · rw [k3] at ha; exact n3 a ha a hb rfl
    · rw [k3] at ha
      have hag : a = g := by simpa using ha
      have hbl : a < w.heap.size := by
        rcases List.mem_append.1 hb with h | h
        · exact hlt1 a h
        · exact hlt2 a h
      omega
  · intro b hb
    rw [List.flatten_append] at hb
    rcases List.mem_append.1 hb with hb | hb
    · rcases k3 with k3 | ⟨g, k3, hg⟩
      · rw [k3] at hb; exact .inl (List.mem_append_left _ hb)
      · rw [k3] at hb
        have : b = g := by simpa using hb
        subst this
        exact .inr (.inr hg)
    · rcases List.mem_append.1 hb with hb | hb
      · exact .inl (List.mem_append_right _ hb)
      · exact .inr (.inl hb)
  · refine ⟨k2.os, k2.tape, k2.output, k2.size, fun k hk hn => k2.block k hk (fun e => hn ?_)⟩
    exact List.mem_append_left _ (by rw [← e]; simp)

/-- The law for the walk. -/
theorem wpList_append_enc {α : Type} {E : Enc α} {ty : TypeId} {P : Program} {w : World} {ops : Array Oper} {rest : List Oper} {o : Oper} {a : Act} {Q : Exit → Act → World → Prop} (hgd : o.guard = none) (s x : Operand) (t : TypeId)
    (ho : o.op = .call { callee := .builtin .append, args := #[s, x], argTypes := #[t, t] })
    (i : TypeInfo) (z : Value) (bytes : Nat) (ht : P.underlying t = some (.slice ty)) (hi : P.info? ty = some i) (hz : i.zero = some z)
    (hsize : i.size = E.size) (hby : i.bytes = bytes) (hzs : z.cells.size = E.size) (hsz : 0 < E.size) {v : Value} {l : List α} {fp : List Nat} (hv : a.eval s = v) (hown : (sliceE E ty).ow w [v] l fp)
    {ys : List α} {css : List (List Value)} {fys : List (List Nat)} (hys : OwAll E w ys css fys) (hs : SrcS w E.size (a.eval x) ys.length css.flatten) (hd : (fp ++ fys.flatten).Nodup)
    (h63 : l.length + ys.length ≤ maxLen) (hbytes : (l.length + ys.length) * bytes ≤ 140737488355328)
    (h : ∀ v' w' fp', (sliceE E ty).ow w' [v'] (l ++ ys) fp' → fp'.Nodup → (∀ b, b ∈ fp' → b ∈ fp ∨ b ∈ fys.flatten ∨ w.heap.size ≤ b) → But fp w w' → wpList P ops Q rest (a.put o.dst v') w') : wpList P ops Q (o :: rest) a w := by
  obtain ⟨v', w', fp', hr, k1, k2, k3, k4, -⟩ := own_append (P := P) w t o.type i z bytes ht hi hz hsize hby hzs hsz hown (a.eval x) hys hs hd h63 hbytes
  refine wpList_plain hgd fun K hK => ?_
  unfold Oper.wp execOp
  simp only [ho, resolve, invoke, builtin, Sem.run_bind, Sem.run_pure, Result.andThen_ok, List.map_toArray, List.map_cons, List.map_nil, hv, hr]
  exact hK _ _ (h v' w' fp' k1 k2 k3 k4)

theorem SrcS.one {w : World} {size : Nat} {ad : Addr} {c : Nat} {cs : List Value} (hl : cs.length = size) (hc : ∀ j u, cs[j]? = some u → w.cell? (ad.add j) = some u) (h1 : ∀ u, u ∈ cs → u.oneCell' = true) : SrcS w size (.slice (some ad) 1 c) 1 [cs].flatten :=
  .inr ⟨ad, c, rfl, by simp [hl], by simpa using hc, by simpa using h1⟩

/-- What a slice of readable elements without blocks of their own yields. -/
theorem src_of_rd {α : Type} {E : Enc α} {ty : TypeId} {w : World} {B : Nat} {v : Value} {l : List α} (c : α → List Value) (inv : ∀ x cs, E.rd w B cs x → cs = c x ∧ E.ow w cs x []) (h1 : ∀ x u, u ∈ c x → u.oneCell' = true) (h : (sliceE E ty).rd w B [v] l) :
    ∃ css fys, OwAll E w l css fys ∧ fys.flatten = [] ∧ SrcS w E.size v l.length css.flatten := by
  obtain ⟨a, cap, hv, e1, e2, e3, e4⟩ := h
  obtain rfl : v = .slice a l.length cap := by simpa using hv
  have hall : ∀ x, x ∈ l → E.ow w (c x) x [] := by
    intro x hx
    obtain ⟨k, hk, rfl⟩ := List.getElem_of_mem hx
    obtain ⟨b, o, xs, -, -, hr, -⟩ := e4 k _ (List.getElem?_eq_getElem hk)
    obtain ⟨rfl, h⟩ := inv _ _ hr
    exact h
  have key : ∀ l : List α, (∀ x, x ∈ l → E.ow w (c x) x []) → OwAll E w l (l.map c) (l.map fun _ => []) := by
    intro l
    induction l with
    | nil => intro _; exact .nil
    | cons a l ih => intro h; exact .cons (h a (by simp)) (ih fun x hx => h x (by simp [hx]))
  refine ⟨l.map c, l.map fun _ => [], key l hall, by simp, ?_⟩
  have hlen : ∀ x, x ∈ l → (c x).length = E.size := fun x hx => E.rd_len (E.ow_rd (B := 0) (fun b hb => by cases hb) (hall x hx))
  rcases a with _ | ad
  · have : l = [] := List.eq_nil_of_length_eq_zero (by have := e3 rfl; omega)
    subst this
    exact .inl ⟨cap, rfl, rfl, rfl⟩
  · refine .inr ⟨ad, cap, rfl, ?_, ?_, ?_⟩
    · have := (key l hall).flat; exact this
    · intro j u hu
      have hj : j < (l.map c).flatten.length := (List.getElem?_eq_some_iff.1 hu).1
      have hfl := (key l hall).flat
      rw [hfl] at hj
      have hpos : 0 < E.size := by
        rcases Nat.eq_zero_or_pos E.size with h | h
        · rw [h, Nat.mul_zero] at hj; omega
        · exact h
      have hk : j / E.size < l.length := Nat.div_lt_of_lt_mul (by rw [Nat.mul_comm]; exact hj)
      obtain ⟨b, o, xs, ha, -, hr, hc⟩ := e4 (j / E.size) _ (List.getElem?_eq_getElem hk)
      obtain ⟨rfl, -⟩ := inv _ _ hr
      obtain rfl : ad = ⟨b, o, none⟩ := by simpa using ha
      have hno : ∀ b, b ∈ (l.map fun _ => ([] : List Nat)).flatten → b < w.heap.size := by
        have e : (l.map fun _ => ([] : List Nat)).flatten = [] := by simp
        rw [e]; intro b hb; cases hb
      obtain ⟨xs', f', q1, -, -, -, q5⟩ := (key l hall).rdAt (B := w.heap.size) hno (j / E.size) _ (List.getElem?_eq_getElem hk)
      have hxs : xs' = c l[j / E.size] := by
        rw [List.getElem?_map, List.getElem?_eq_getElem hk] at q1
        simpa using q1.symm
      subst hxs
      have hm : j % E.size < (c l[j / E.size]).length := by rw [hlen _ (List.getElem_mem hk)]; exact Nat.mod_lt _ hpos
      have e := q5 (j % E.size) _ (List.getElem?_eq_getElem hm)
      have hj2 : j / E.size * E.size + j % E.size = j := by rw [Nat.mul_comm]; exact Nat.div_add_mod j E.size
      rw [hj2, hu] at e
      have := hc (j % E.size) _ (List.getElem?_eq_getElem hm)
      rw [hj2] at this
      rw [Addr.add_lit, this]
      exact e.symm
    · intro u hu
      obtain ⟨cs, hcs, hu⟩ := List.mem_flatten.1 hu
      obtain ⟨x, hx, rfl⟩ := List.mem_map.1 hcs
      exact h1 x u hu

/-- append of one element. -/
theorem wpList_append_one {α : Type} {E : Enc α} {ty : TypeId} {P : Program} {w : World} {ops : Array Oper} {rest : List Oper} {o : Oper} {a : Act} {Q : Exit → Act → World → Prop} (hgd : o.guard = none) (s x : Operand) (t : TypeId)
    (ho : o.op = .call { callee := .builtin .append, args := #[s, x], argTypes := #[t, t] })
    (i : TypeInfo) (z : Value) (bytes : Nat) (ht : P.underlying t = some (.slice ty)) (hi : P.info? ty = some i) (hz : i.zero = some z)
    (hsize : i.size = E.size) (hby : i.bytes = bytes) (hzs : z.cells.size = E.size) (hsz : 0 < E.size) (hb64 : bytes ≤ 64) {v : Value} {l : List α} {fp : List Nat} (hv : a.eval s = v) (hown : (sliceE E ty).ow w [v] l fp) (hn : fp.Nodup)
    {g c : Nat} (hx : a.eval x = .slice (some ⟨g, 0, none⟩) 1 c) {y : α} {cs : List Value} {fy : List Nat} (hc : ∀ j u, cs[j]? = some u → w.cell? ⟨g, j, none⟩ = some u) (h1 : ∀ u, u ∈ cs → u.oneCell' = true) (hy : E.ow w cs y fy)
    (hny : fy.Nodup) (hd : ∀ b, b ∈ fy → b ∉ fp) (hlen : l.length ≤ 1000000000000)
    (h : ∀ v' w' fp', (sliceE E ty).ow w' [v'] (l ++ [y]) fp' → fp'.Nodup → (∀ b, b ∈ fp' → b ∈ fp ∨ b ∈ fy ∨ w.heap.size ≤ b) → But fp w w' → wpList P ops Q rest (a.put o.dst v') w') : wpList P ops Q (o :: rest) a w := by
  have hcl : cs.length = E.size := E.rd_len (E.rd_ow hy)
  have hb : (l.length + [y].length) * bytes ≤ 140737488355328 := by
    have : (l.length + [y].length) * bytes ≤ 1000000000001 * 64 := Nat.mul_le_mul (by simp; omega) hb64
    omega
  refine wpList_append_enc (E := E) (ty := ty) hgd s x t ho i z bytes ht hi hz hsize hby hzs hsz hv hown (OwAll.one hy) ?_ ?_ (by simp [maxLen]; omega) hb (fun v' w' fp' k1 k2 k3 k4 => h v' w' fp' k1 k2 (fun b hb => by have := k3 b hb; simpa using this) k4)
  · rw [hx]
    exact SrcS.one (ad := ⟨g, 0, none⟩) hcl (fun j u hu => by rw [Addr.add_lit]; simpa using hc j u hu) h1
  · rw [List.nodup_append]
    exact ⟨hn, by simpa using hny, fun p hp q hq e => hd q (by simpa using hq) (e ▸ hp)⟩

/-- A slice whose elements, of one cell each, have just been written into a block. -/
theorem ow_lit {α : Type} {E : Enc α} {ty : TypeId} {w : World} {g : Nat} {l : List α} (f : α → Value) (hE : E.size = 1) (hf : ∀ x, x ∈ l → E.ow w [f x] x []) (h : Blk w g (l.map f) ty) (hl : l.length ≤ maxLen) :
    (sliceE E ty).ow w [.slice (some ⟨g, 0, none⟩) l.length l.length] l [g] :=
  ow_flat (base := 0) f hE hf ⟨by simp, .inr ⟨g, l.length, (l.map f).toArray, rfl, Nat.zero_le _, h, Nat.le_refl _, hl, by simp, by rw [List.take_of_length_le] <;> simp⟩⟩

theorem ow_nil {α : Type} (E : Enc α) (ty : TypeId) (w : World) : (sliceE E ty).ow w [.slice none 0 0] [] [] := ⟨_, [], [], rfl, .nil, by simpa using World.ownsRow_nil w 0 ty E.size, rfl⟩

theorem Blk.set3 {w w' : World} {b : Nat} {cs : List Value} {ty : TypeId} (h : Blk w b cs ty) (hl : cs.length = 3) {v0 v1 v2 : Value} (hW : ((w.setCell ⟨b, 0, none⟩ v0).setCell ⟨b, 1, none⟩ v1).setCell ⟨b, 2, none⟩ v2 = w') :
    Blk w' b [v0, v1, v2] ty ∧ But [b] w w' := by
  subst hW
  refine ⟨?_, (((But.refl _ _).setCell (by simp) _).setCell (by simp) _).setCell (by simp) _⟩
  match cs, hl with
  | [_, _, _], _ => exact ((h.set 0 _).set 1 _).set 2 _

theorem Blk.set4 {w w' : World} {b : Nat} {cs : List Value} {ty : TypeId} (h : Blk w b cs ty) (hl : cs.length = 4) {v0 v1 v2 v3 : Value} (hW : (((w.setCell ⟨b, 0, none⟩ v0).setCell ⟨b, 1, none⟩ v1).setCell ⟨b, 2, none⟩ v2).setCell ⟨b, 3, none⟩ v3 = w') :
    Blk w' b [v0, v1, v2, v3] ty ∧ But [b] w w' := by
  subst hW
  refine ⟨?_, ((((But.refl _ _).setCell (by simp) _).setCell (by simp) _).setCell (by simp) _).setCell (by simp) _⟩
  match cs, hl with
  | [_, _, _, _], _ => exact (((h.set 0 _).set 1 _).set 2 _).set 3 _

theorem Enc.ow_set {α : Type} (E : Enc α) {w : World} {cs : List Value} {x : α} {fp : List Nat} (h : E.ow w cs x fp) {a : Addr} (ha : ∀ b, b ∈ fp → b ≠ a.block) (v : Value) : E.ow (w.setCell a v) cs x fp :=
  E.ow_frame (fun b hb => Below.heap_setCell _ _ _ _ (ha b hb)) h

theorem bd0 : (-9223372036854775808 : Int) ≤ 0 ∧ (0 : Int) ≤ 9223372036854775807 := by decide
theorem bd1 : (-9223372036854775808 : Int) ≤ 1 ∧ (1 : Int) ≤ 9223372036854775807 := by decide

theorem one_mem {v : Value} (h : v.oneCell' = true) : ∀ u, u ∈ [v] → u.oneCell' = true := by
  intro u hu
  have e : u = v := by simpa using hu
  rw [e]; exact h

/-- A new element that is itself a slice just written, stored in a block of one cell. -/
theorem lit_slice {α : Type} {E : Enc α} {ty tb : TypeId} (w : World) (l : List α) (f : α → Value) (hE : E.size = 1) (hf : ∀ (w : World) x, x ∈ l → E.ow w [f x] x []) (hl : l.length ≤ maxLen) {W : World}
    (hW : W = (w.alloc (.cells (l.map f).toArray ty)).alloc (.cells #[.slice (some ⟨w.heap.size, 0, none⟩) l.length l.length] tb)) :
    (sliceE E ty).ow W [.slice (some ⟨w.heap.size, 0, none⟩) l.length l.length] l [w.heap.size] ∧ (∀ j u, [Value.slice (some ⟨w.heap.size, 0, none⟩) l.length l.length][j]? = some u → W.cell? ⟨w.heap.size + 1, j, none⟩ = some u) ∧
      Below w.heap.size w W ∧ W.heap.size = w.heap.size + 1 + 1 := by
  obtain ⟨h0, h1, h2⟩ := blk2 hW.symm
  refine ⟨ow_lit f hE (hf W) (by simpa using h0) hl, fun j u hu => h1.cell j (by simpa using hu), h2, by rw [hW]; simp⟩

/-- A call that hands back a struct of new memory and a code. -/
abbrev MakesC {α : Type} (E : Enc α) (x : α × Int) (w : World) (e : Ending) (w' : World) : Prop :=
  ∃ cs fp, e = .returned (.tuple #[.agg cs.toArray, .int .i64 x.2]) ∧ E.ow w' cs x.1 fp ∧ fp.Nodup ∧ (∀ b, b ∈ fp → w.heap.size ≤ b) ∧ Below w.heap.size w w'

end Go.Proofs.YtbiagkbjhdidjaaDoor
