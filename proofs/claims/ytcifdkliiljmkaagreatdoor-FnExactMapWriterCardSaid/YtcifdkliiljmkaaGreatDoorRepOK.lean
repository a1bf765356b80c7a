/-
  A strings.Replacer of the call's own as a part of Star: fresh, or built by either way; rows of bytes that a conversion has made.
-/
import Derived.Test.YtcifdkliiljmkaaGreatDoorProg
import Derived.Test.YtcifdkliiljmkaaGreatDoorStarKK
import Derived.Test.YtcifdkliiljmkaaGreatDoorSetInK
import Derived.Test.YtcifdkliiljmkaaGreatDoorMapDefK
import Derived.Lib.ConvBytes
namespace Go.Proofs.YtcifdkliiljmkaaGreatDoor
open Go.RowKit

/-- Block b holds these bytes, from its first cell on; they may be written. -/
def YB (w : World) (b : Nat) (l : List UInt8) : Prop := ∃ (cs : Array Value) (ty : TypeId) (fz : Nat × Nat), w.heap[b]? = some (Obj.cells cs ty fz) ∧ l.length ≤ fz.1 ∧ ∀ j, j < l.length → cs[j]? = some (Value.int .u8 ((l.getD j 0).toNat : Int))

theorem YB.cell {w : World} {b : Nat} {l : List UInt8} (h : YB w b l) (j : Nat) (hj : j < l.length) : w.cell? ⟨b, j, none⟩ = some (.int .u8 ((l.getD j 0).toNat : Int)) := by
  obtain ⟨cs, ty, fz, h1, h2, h3⟩ := h
  unfold World.cell?
  rw [h1]
  simpa using h3 j hj

theorem YB.free {w : World} {b : Nat} {l : List UInt8} (h : YB w b l) (j : Nat) (hj : j < l.length) : w.frozen? ⟨b, j, none⟩ = false := by
  obtain ⟨cs, ty, fz, h1, h2, h3⟩ := h
  unfold World.frozen?
  rw [h1]
  simp
  omega

theorem YB.same {w w' : World} {b : Nat} {l : List UInt8} (h : YB w b l) (hb : w'.heap[b]? = w.heap[b]?) : YB w' b l := by
  obtain ⟨cs, ty, fz, h1, h2, h3⟩ := h
  exact ⟨cs, ty, fz, by rw [hb]; exact h1, h2, h3⟩

theorem YB.lt {w : World} {b : Nat} {l : List UInt8} (h : YB w b l) : b < w.heap.size := by
  obtain ⟨cs, ty, fz, h1, -⟩ := h
  exact (Array.getElem?_eq_some_iff.1 h1).1

theorem YB.set {w : World} {b : Nat} {l : List UInt8} (h : YB w b l) (i : Nat) (x : UInt8) : YB (w.setCell ⟨b, i, none⟩ (.int .u8 (x.toNat : Int))) b (l.set i x) := by
  obtain ⟨cs, ty, fz, h1, h2, h3⟩ := h
  have e : (w.setCell ⟨b, i, none⟩ (.int .u8 (x.toNat : Int))).heap[b]? = some (Obj.cells (cs.set! i (.int .u8 (x.toNat : Int))) ty fz) := by
    unfold World.setCell
    simp [Array.getElem?_modify, h1]
  refine ⟨_, ty, fz, e, by rw [List.length_set]; exact h2, fun j hj => ?_⟩
  rw [List.length_set] at hj
  have h4 := h3 j hj
  have hc : j < cs.size := (Array.getElem?_eq_some_iff.1 h4).1
  rw [List.getD_eq_getElem?_getD, List.getElem?_set]
  rw [Array.set!_eq_setIfInBounds, Array.getElem?_setIfInBounds]
  by_cases hij : i = j
  · subst hij
    simp [hc, hj]
  · simp [hij, h4]

/-- A row of bytes as a part. -/
def oY (b : Nat) (l : List UInt8) : Ob := ⟨fun w fp => YB w b l ∧ fp = [b], fun hf h => ⟨h.1.same (hf b (by rw [h.2]; simp)), h.2⟩⟩

section
variable {w0 w w' : World} {ps : List Ob}

theorem Star.yb (S : Star w0 w ps) (n : Nat) {b : Nat} {l : List UInt8} (h : ps[n]? = some (oY b l)) : YB w b l := by
  obtain ⟨_, fp, hh, _⟩ := S
  exact (hh n _ h).1.1

theorem Star.setY {b : Nat} {l : List UInt8} (S : Star w0 w (oY b l :: ps)) (i : Nat) (x : UInt8) : Star w0 (w.setCell ⟨b, i, none⟩ (.int .u8 (x.toNat : Int))) (oY b (l.set i x) :: ps) :=
  S.upd fun f hf _ hl => ⟨f, ⟨hf.1.set i x, hf.2⟩, by rw [hf.2]; simp, fun b hb => .inl hb, fun b hb => by simpa using hl b hb, by rw [hf.2]; exact (But.refl _ _).setCell (by simp) _⟩

theorem bytes_below (w : World) (e : TypeId) (s : ByteArray) : Below w.heap.size w (Lib.bytesWorld w e s) :=
  ⟨rfl, rfl, rfl, by rw [Lib.bytesWorld_size]; omega, fun k hk => Lib.bytesWorld_at_old w e s k hk⟩

/-- What a conversion of a string makes. -/
theorem Star.bytesOf (S : Star w0 w ps) (e : TypeId) (s : ByteArray) : Star w0 (Lib.bytesWorld w e s) (oY w.heap.size s.data.toList :: ps) :=
  S.push (f := [w.heap.size]) (bytes_below w e s) ⟨⟨_, _, _, Lib.bytesWorld_at_new w e s, by simp [Lib.bytesCells], fun j hj => by
    have hj' : j < s.size := by rw [Lib.size_eq]; exact hj
    have hj2 : j < s.data.size := hj'
    simp [Lib.bytesCells, Array.getElem?_append, hj', Array.getElem?_eq_getElem hj2]⟩, rfl⟩ (by simp) (fun b hb => by
      have e : b = w.heap.size := by simpa using hb
      omega) (fun b hb => by
      have e : b = w.heap.size := by simpa using hb
      rw [Lib.bytesWorld_size]; omega)

/-- A part is opened. -/
theorem Star.opened {P : Ob} (S : Star w0 w (P :: ps)) : ∃ f, P.holds w f ∧ (∀ Q : Ob, Q.holds w f → Star w0 w (Q :: ps)) ∧ ∀ (Q R : Ob) (f1 f2 : List Nat), f = f1 ++ f2 → Q.holds w f1 → R.holds w f2 → Star w0 w (Q :: R :: ps) := by
  obtain ⟨B, fp, hh, d⟩ := S
  obtain ⟨p1, p2, p3⟩ := hh 0 P rfl
  refine ⟨fp 0, p1, fun Q hQ => ⟨B, fp, fun i X hX => ?_, fun i j hij hi hj => d i j hij (by simpa using hi) (by simpa using hj)⟩, fun Q R f1 f2 e hQ hR => ⟨B, fun i => match i with | 0 => f1 | 1 => f2 | i + 2 => fp (i + 1), fun i X hX => ?_, fun i j hij hi hj => ?_⟩⟩
  · cases i with
    | zero =>
      obtain rfl : Q = X := by simpa using hX
      exact ⟨hQ, p2, p3⟩
    | succ i => exact hh (i + 1) X (by simpa using hX)
  · rw [e] at p2 p3
    match i with
    | 0 =>
      obtain rfl : Q = X := by simpa using hX
      exact ⟨hQ, (List.nodup_append.1 p2).1, fun b hb => p3 b (List.mem_append_left _ hb)⟩
    | 1 =>
      obtain rfl : R = X := by simpa using hX
      exact ⟨hR, (List.nodup_append.1 p2).2.1, fun b hb => p3 b (List.mem_append_right _ hb)⟩
    | i + 2 => exact hh (i + 1) X (by simpa using hX)
  · have d12 : Dj f1 f2 := fun x h1 h2 => (List.nodup_append.1 (e ▸ p2)).2.2 x h1 x h2 rfl
    have d1 : ∀ k, k < ps.length → Dj f1 (fp (k + 1)) := fun k hk x h1 h2 => d 0 (k + 1) (by omega) (by simp) (by simpa using hk) x (by rw [e]; exact List.mem_append_left _ h1) h2
    have d2 : ∀ k, k < ps.length → Dj f2 (fp (k + 1)) := fun k hk x h1 h2 => d 0 (k + 1) (by omega) (by simp) (by simpa using hk) x (by rw [e]; exact List.mem_append_right _ h1) h2
    simp only [List.length_cons] at hi hj
    match i, j with
    | 0, 0 => exact absurd rfl hij
    | 0, 1 => exact d12
    | 0, j + 2 => exact d1 j (by omega)
    | 1, 0 => exact d12.symm
    | 1, 1 => exact absurd rfl hij
    | 1, j + 2 => exact d2 j (by omega)
    | i + 2, 0 => exact (d1 i (by omega)).symm
    | i + 2, 1 => exact (d2 i (by omega)).symm
    | i + 2, j + 2 => exact d (i + 1) (j + 1) (by omega) (by simp; omega) (by simp; omega)
end

/-- The six strings. -/
def repL (a b c : ByteArray) : List ByteArray := [⟨#[97]⟩, a, ⟨#[98]⟩, b, ⟨#[99]⟩, c]

abbrev tRep : TypeId := 123
abbrev tByt : TypeId := 169
abbrev tBst : TypeId := 173

/-- What build hands back, as a part: one of the two replacers. -/
def oImpl (iv : Value) (a b c : ByteArray) : Ob :=
  ⟨fun w fp => (∃ q cs x y z, iv = .iface 170 (.pointer (some ⟨q, 0, none⟩)) ∧ Blk w q cs tByt ∧ a.data.toList = [x] ∧ b.data.toList = [y] ∧ c.data.toList = [z] ∧ cs[97]? = some (.int .u8 (x.toNat : Int)) ∧ cs[98]? = some (.int .u8 (y.toNat : Int)) ∧ cs[99]? = some (.int .u8 (z.toNat : Int)) ∧ fp = [q])
    ∨ (∃ q cs q1 q2 q3 k1 k2 k3 t tc, iv = .iface 174 (.pointer (some ⟨q, 0, none⟩)) ∧ Blk w q cs tBst ∧ cs[97]? = some (.slice (some ⟨q1, 0, none⟩) a.size k1) ∧ cs[98]? = some (.slice (some ⟨q2, 0, none⟩) b.size k2) ∧ cs[99]? = some (.slice (some ⟨q3, 0, none⟩) c.size k3) ∧ cs[256]? = some (.slice t 3 tc)
      ∧ YB w q1 a.data.toList ∧ YB w q2 b.data.toList ∧ YB w q3 c.data.toList ∧ fp = [q, q1, q2, q3]),
   fun hf h => by
    rcases h with ⟨q, cs, x, y, z, rfl, h1, h2, h3, h4, h5, h6, h7, rfl⟩ | ⟨q, cs, q1, q2, q3, k1, k2, k3, t, tc, rfl, h1, h2, h3, h4, h5, h6, h7, h8, rfl⟩
    · exact .inl ⟨q, cs, x, y, z, rfl, h1.same (hf q (by simp)), h2, h3, h4, h5, h6, h7, rfl⟩
    · exact .inr ⟨q, cs, q1, q2, q3, k1, k2, k3, t, tc, rfl, h1.same (hf q (by simp)), h2, h3, h4, h5, h6.same (hf q1 (by simp)), h7.same (hf q2 (by simp)), h8.same (hf q3 (by simp)), rfl⟩⟩

/-- A built Replacer. -/
def oBt (r : Nat) (a b c : ByteArray) : Ob :=
  ⟨fun w fp => ∃ iv f, Blk w r [.int .u32 1, .int .i32 0, .int .u32 0, iv, .slice none 0 0] tRep ∧ (oImpl iv a b c).holds w f ∧ fp = r :: f,
   fun hf h => by
    obtain ⟨iv, f, h1, h2, rfl⟩ := h
    exact ⟨iv, f, h1.same (hf r (by simp)), (oImpl iv a b c).frame (fun b hb => hf b (by simp [hb])) h2, rfl⟩⟩

/-- A fresh one. -/
def oFr (r : Nat) (a b c : ByteArray) : Ob :=
  ⟨fun w fp => ∃ v f, Blk w r [.int .u32 0, .int .i32 0, .int .u32 0, .nilIface, v] tRep ∧ strsE.ow w [v] (repL a b c) f ∧ fp = r :: f,
   fun hf h => by
    obtain ⟨v, f, h1, h2, rfl⟩ := h
    exact ⟨v, f, h1.same (hf r (by simp)), strsE.ow_frame (fun b hb => hf b (by simp [hb])) h2, rfl⟩⟩

/-- A Replacer, fresh or built. -/
def oRep (r : Nat) (a b c : ByteArray) : Ob :=
  ⟨fun w fp => (oFr r a b c).holds w fp ∨ (oBt r a b c).holds w fp, fun hf h => h.imp ((oFr r a b c).frame hf) ((oBt r a b c).frame hf)⟩

section
variable {w0 w w' : World} {ps : List Ob} {r q : Nat} {a b c : ByteArray}

theorem Star.repCases (S : Star w0 w (oRep r a b c :: ps)) : Star w0 w (oFr r a b c :: ps) ∨ Star w0 w (oBt r a b c :: ps) := by
  obtain ⟨f, h, k, -⟩ := S.opened
  exact h.imp (k _) (k _)

theorem Star.frOpen (S : Star w0 w (oFr r a b c :: ps)) : ∃ v, Star w0 w (oB r [.int .u32 0, .int .i32 0, .int .u32 0, .nilIface, v] tRep :: oE strsE [v] (repL a b c) :: ps) := by
  obtain ⟨f, ⟨v, g, h1, h2, rfl⟩, -, k⟩ := S.opened
  exact ⟨v, k _ _ [r] g rfl ⟨h1, rfl⟩ h2⟩

theorem Star.btOpen (S : Star w0 w (oBt r a b c :: ps)) : ∃ iv, Star w0 w (oB r [.int .u32 1, .int .i32 0, .int .u32 0, iv, .slice none 0 0] tRep :: oImpl iv a b c :: ps) := by
  obtain ⟨f, ⟨iv, g, h1, h2, rfl⟩, -, k⟩ := S.opened
  exact ⟨iv, k _ _ [r] g rfl ⟨h1, rfl⟩ h2⟩

theorem Star.toFr {v : Value} (S : Star w0 w (oB r [.int .u32 0, .int .i32 0, .int .u32 0, .nilIface, v] tRep :: oE strsE [v] (repL a b c) :: ps)) : Star w0 w (oRep r a b c :: ps) :=
  S.join fun f g h1 h2 => .inl ⟨v, g, h1.1, h2, by rw [h1.2]; rfl⟩

theorem Star.toBt {iv : Value} (S : Star w0 w (oB r [.int .u32 1, .int .i32 0, .int .u32 0, iv, .slice none 0 0] tRep :: oImpl iv a b c :: ps)) : Star w0 w (oBt r a b c :: ps) :=
  S.join fun f g h1 h2 => ⟨iv, g, h1.1, h2, by rw [h1.2]; rfl⟩

theorem Star.btRep (S : Star w0 w (oBt r a b c :: ps)) : Star w0 w (oRep r a b c :: ps) := by
  obtain ⟨f, h, k, -⟩ := S.opened
  exact k _ (.inr h)

theorem Star.implHolds {iv : Value} (S : Star w0 w ps) (n : Nat) (h : ps[n]? = some (oImpl iv a b c)) : ∃ f, (oImpl iv a b c).holds w f := by
  obtain ⟨_, fp, hh, _⟩ := S
  exact ⟨_, (hh n _ h).1⟩

theorem Star.toByt {cs : List Value} {x y z : UInt8} (S : Star w0 w (oB q cs tByt :: ps)) (ha : a.data.toList = [x]) (hb : b.data.toList = [y]) (hc : c.data.toList = [z]) (h1 : cs[97]? = some (.int .u8 (x.toNat : Int))) (h2 : cs[98]? = some (.int .u8 (y.toNat : Int))) (h3 : cs[99]? = some (.int .u8 (z.toNat : Int))) :
    Star w0 w (oImpl (.iface 170 (.pointer (some ⟨q, 0, none⟩))) a b c :: ps) := by
  obtain ⟨f, ⟨h, rfl⟩, k, -⟩ := S.opened
  exact k _ (.inl ⟨q, cs, x, y, z, rfl, h, ha, hb, hc, h1, h2, h3, rfl⟩)

/-- Three rows of bytes. -/
def oY3 (q1 q2 q3 : Nat) (a b c : List UInt8) : Ob := ⟨fun w fp => YB w q1 a ∧ YB w q2 b ∧ YB w q3 c ∧ fp = [q1, q2, q3], fun hf h => by
  obtain ⟨h1, h2, h3, rfl⟩ := h
  exact ⟨h1.same (hf q1 (by simp)), h2.same (hf q2 (by simp)), h3.same (hf q3 (by simp)), rfl⟩⟩

theorem Star.toBst {cs : List Value} {q1 q2 q3 k1 k2 k3 : Nat} {t : Option Addr} {tc : Nat} (S : Star w0 w (oB q cs tBst :: oY q1 a.data.toList :: oY q2 b.data.toList :: oY q3 c.data.toList :: ps))
    (h1 : cs[97]? = some (.slice (some ⟨q1, 0, none⟩) a.size k1)) (h2 : cs[98]? = some (.slice (some ⟨q2, 0, none⟩) b.size k2)) (h3 : cs[99]? = some (.slice (some ⟨q3, 0, none⟩) c.size k3)) (h4 : cs[256]? = some (.slice t 3 tc)) :
    Star w0 w (oImpl (.iface 174 (.pointer (some ⟨q, 0, none⟩))) a b c :: ps) := by
  have S2 : Star w0 w (oB q cs tBst :: oY3 q1 q2 q3 a.data.toList b.data.toList c.data.toList :: ps) := by
    obtain ⟨B, fp, hh, d⟩ := S
    obtain ⟨p0, n0, o0⟩ := hh 0 _ rfl
    obtain ⟨p1, n1, o1⟩ := hh 1 _ rfl
    obtain ⟨p2, n2, o2⟩ := hh 2 _ rfl
    obtain ⟨p3, n3, o3⟩ := hh 3 _ rfl
    have d12 := d 1 2 (by omega) (by simp) (by simp)
    have d13 := d 1 3 (by omega) (by simp) (by simp)
    have d23 := d 2 3 (by omega) (by simp) (by simp)
    have dd : ∀ k l, k < 4 → 4 ≤ l → l < ps.length + 4 → Dj (fp k) (fp l) := fun k l h1 h2 h3 => d k l (by omega) (by simp; omega) (by simpa using h3)
    have key : ∀ l, l = 0 ∨ (4 ≤ l ∧ l < ps.length + 4) → Dj (fp l) (fp 1 ++ (fp 2 ++ fp 3)) := fun l hl x hx hy => by
      rcases List.mem_append.1 hy with hy | hy
      · rcases hl with rfl | hl
        · exact d 0 1 (by omega) (by simp) (by simp) x hx hy
        · exact dd 1 l (by omega) hl.1 hl.2 x hy hx
      · rcases List.mem_append.1 hy with hy | hy
        · rcases hl with rfl | hl
          · exact d 0 2 (by omega) (by simp) (by simp) x hx hy
          · exact dd 2 l (by omega) hl.1 hl.2 x hy hx
        · rcases hl with rfl | hl
          · exact d 0 3 (by omega) (by simp) (by simp) x hx hy
          · exact dd 3 l (by omega) hl.1 hl.2 x hy hx
    refine ⟨B, fun i => match i with | 0 => fp 0 | 1 => fp 1 ++ (fp 2 ++ fp 3) | i + 2 => fp (i + 4), fun i X hX => ?_, fun i j hij hi hj => ?_⟩
    · match i with
      | 0 =>
        obtain rfl : _ = X := by simpa using hX
        exact ⟨p0, n0, o0⟩
      | 1 =>
        obtain rfl : _ = X := by simpa using hX
        refine ⟨⟨p1.1, p2.1, p3.1, by rw [p1.2, p2.2, p3.2]; rfl⟩, ?_, fun x hx => ?_⟩
        · have d123 : Dj (fp 1) (fp 2 ++ fp 3) := fun x hx hy => (List.mem_append.1 hy).elim (d12 x hx) (d13 x hx)
          exact d123.nodup n1 (d23.nodup n2 n3)
        · rcases List.mem_append.1 hx with hx | hx
          · exact o1 x hx
          · exact (List.mem_append.1 hx).elim (o2 x) (o3 x)
      | i + 2 => exact hh (i + 4) X (by simpa using hX)
    · simp only [List.length_cons] at hi hj
      match i, j with
      | 0, 0 => exact absurd rfl hij
      | 0, 1 => exact key 0 (.inl rfl)
      | 0, j + 2 => exact dd 0 (j + 4) (by omega) (by omega) (by omega)
      | 1, 0 => exact (key 0 (.inl rfl)).symm
      | 1, 1 => exact absurd rfl hij
      | 1, j + 2 => exact (key (j + 4) (.inr ⟨by omega, by omega⟩)).symm
      | i + 2, 0 => exact (dd 0 (i + 4) (by omega) (by omega) (by omega)).symm
      | i + 2, 1 => exact key (i + 4) (.inr ⟨by omega, by omega⟩)
      | i + 2, j + 2 => exact d (i + 4) (j + 4) (by omega) (by simp; omega) (by simp; omega)
  exact S2.join fun f g hf hg => .inr ⟨q, cs, q1, q2, q3, k1, k2, k3, t, tc, rfl, hf.1, h1, h2, h3, h4, hg.1, hg.2.1, hg.2.2.1, by rw [hf.2, hg.2.2.2]; rfl⟩
end

end Go.Proofs.YtcifdkliiljmkaaGreatDoor
