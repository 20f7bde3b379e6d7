/- Letters, and slices of them. -/
import Derived.Test.YtchkbbkcflmcmaaRows
import Derived.Test.YtchkbbkcflmcmaaUpd
import Derived.Deep.AppendLies
import Derived.Lib.Strings
set_option linter.unusedVariables false
namespace Go.Proofs.Ytchkbbkcflmcmaa
open Go.RowKit

/-- A letter. -/
structure Let where
  id : Int
  tn : Int
  ats : Int
  cd : Int
  key : ByteArray
  tm : Int
deriving DecidableEq

def Let.cells (x : Let) : List Value := [.int .i64 x.id, .int .i64 x.tn, .int .i64 x.ats, .int .i64 x.cd, .string x.key, .int .u64 x.tm]
def zeroLet : Let := ⟨0, 0, 0, 0, ⟨#[]⟩, 0⟩

theorem letU : ∃ fs, Try.prog.underlying 29 = some (.struct fs) := ⟨_, Try.underlying29⟩
theorem letRow (x : Let) : (Try.prog.info? 29).map (·.size) = some x.cells.length := by
  show _ = some 6
  kernel_rfl
theorem let_one (x : Let) : ∀ v ∈ x.cells, v.oneCell' = true := by
  intro v hv
  simp [Let.cells] at hv
  rcases hv with rfl | rfl | rfl | rfl | rfl | rfl <;> rfl

theorem let_part0 (x : Let) (w : World) : (part 3 x.cells.toArray 0).run Try.prog w = .ok (.int .i64 x.id) w := by
  have ht : (isAgg 3).run Try.prog w = .ok false w := by kernel_rfl
  simp [part, ht, Let.cells]
theorem let_part1 (x : Let) (w : World) : (part 3 x.cells.toArray 1).run Try.prog w = .ok (.int .i64 x.tn) w := by
  have ht : (isAgg 3).run Try.prog w = .ok false w := by kernel_rfl
  simp [part, ht, Let.cells]
theorem let_part2 (x : Let) (w : World) : (part 3 x.cells.toArray 2).run Try.prog w = .ok (.int .i64 x.ats) w := by
  have ht : (isAgg 3).run Try.prog w = .ok false w := by kernel_rfl
  simp [part, ht, Let.cells]
theorem let_part3 (x : Let) (w : World) : (part 3 x.cells.toArray 3).run Try.prog w = .ok (.int .i64 x.cd) w := by
  have ht : (isAgg 3).run Try.prog w = .ok false w := by kernel_rfl
  simp [part, ht, Let.cells]
theorem let_part4 (x : Let) (w : World) : (part 9 x.cells.toArray 4).run Try.prog w = .ok (.string x.key) w := by
  have ht : (isAgg 9).run Try.prog w = .ok false w := by kernel_rfl
  simp [part, ht, Let.cells]
theorem let_part5 (x : Let) (w : World) : (part 27 x.cells.toArray 5).run Try.prog w = .ok (.int .u64 x.tm) w := by
  have ht : (isAgg 27).run Try.prog w = .ok false w := by kernel_rfl
  simp [part, ht, Let.cells]

theorem bytes_inj (a b : ByteArray) : a.toList = b.toList ↔ a = b :=
  ⟨fun h => by
    rw [Lib.toList_data, Lib.toList_data] at h
    have h2 : a.data = b.data := Array.toList_inj.1 h
    cases a; cases b
    simpa using h2, fun h => by rw [h]⟩

theorem let_eq (d : Nat) (x y : Let) (w : World) : (Op.equalIn (d + 2) 29 (.agg x.cells.toArray) (.agg y.cells.toArray)).run Try.prog w = .ok (decide (x = y)) w := by
  have h0 : Try.prog.stoodInHeld 29 = false := by kernel_rfl
  unfold Op.equalIn
  simp only [Sem.run_bind, run_underlying Try.underlying29, Result.andThen_ok]
  simp [Sem.run_bind, h0, let_part0, let_part1, let_part2, let_part3, let_part4, let_part5, run_equalIn_int w d 3 .i64 .i64 _ _ Try.underlying3, run_equalIn_int w d 27 .u64 .u64 _ _ Try.underlying27, run_equalIn_string w d 9 _ _ Try.underlying9, bytes_inj]
  obtain ⟨a1, a2, a3, a4, a5, a6⟩ := x
  obtain ⟨b1, b2, b3, b4, b5, b6⟩ := y
  simp only [Let.mk.injEq]
  by_cases h1 : a1 = b1 <;> by_cases h2 : a2 = b2 <;> by_cases h3 : a3 = b3 <;> by_cases h4 : a4 = b4 <;> by_cases h5 : a5 = b5 <;> by_cases h6 : a6 = b6 <;> simp [h1, h2, h3, h4, h5, h6]

/-- A slice that reads as letters. -/
def Lts (w : World) (v : Value) (L : List Let) : Prop :=
  (L = [] ∧ ∃ a cap, v = .slice a 0 cap) ∨ (∃ b off cap, v = .slice (some ⟨b, off, none⟩) L.length cap ∧ ∀ i x, L[i]? = some x → w.rangeAt b (off + i * 6) x.cells)

theorem Lts.below {w w' : World} {v : Value} {L : List Let} (h : Lts w v L) (hb : Below w.heap.size w w') : Lts w' v L := by
  rcases h with h | ⟨b, off, cap, hv, hr⟩
  · exact .inl h
  · exact .inr ⟨b, off, cap, hv, fun i x hx => below_range hb (hr i x hx)⟩

/-- Letters in a slice that does not lie in blocks of F. -/
def LtsOut (F : List Nat) (w : World) (v : Value) (L : List Let) : Prop :=
  (L = [] ∧ ∃ a cap, v = .slice a 0 cap) ∨ (∃ b off cap, v = .slice (some ⟨b, off, none⟩) L.length cap ∧ b ∉ F ∧ ∀ i x, L[i]? = some x → w.rangeAt b (off + i * 6) x.cells)

theorem LtsOut.lts {F : List Nat} {w : World} {v : Value} {L : List Let} (h : LtsOut F w v L) : Lts w v L := by
  rcases h with h | ⟨b, off, cap, hv, -, hr⟩
  · exact .inl h
  · exact .inr ⟨b, off, cap, hv, hr⟩
theorem LtsOut.upd {F : List Nat} {w w' : World} {v : Value} {L : List Let} (h : LtsOut F w v L) (hb : Upd F w w') : LtsOut F w' v L := by
  rcases h with h | ⟨b, off, cap, hv, hn, hr⟩
  · exact .inl h
  · exact .inr ⟨b, off, cap, hv, hn, fun i x hx => hb.range hn (hr i x hx)⟩

/-- A box of letters in memory: its own block, its ring's block, the room, the first place, how many; what lies in the ring. -/
structure BoxRaw (w : World) (p g room f n : Nat) (R : Nat → Option Let) : Prop where
  ne : p ≠ g
  room0 : 0 < room
  room1 : room ≤ 1024
  c0 : w.cell? ⟨p, 0, none⟩ = some (.slice (some ⟨g, 0, none⟩) room room)
  c1 : w.cell? ⟨p, 1, none⟩ = some (.int .i64 f)
  c2 : w.cell? ⟨p, 2, none⟩ = some (.int .i64 n)
  f1 : w.frozen? ⟨p, 1, none⟩ = false
  f2 : w.frozen? ⟨p, 2, none⟩ = false
  th : ∀ s, s < room → w.there g (s * 6) 6
  rg : ∀ s x, R s = some x → w.rangeAt g (s * 6) x.cells

namespace BoxRaw
variable {w w' : World} {p g room f n : Nat} {R : Nat → Option Let}
theorem upd {F : List Nat} (h : BoxRaw w p g room f n R) (hb : Upd F w w') (hp : p ∉ F) (hg : g ∉ F) : BoxRaw w' p g room f n R where
  ne := h.ne
  room0 := h.room0
  room1 := h.room1
  c0 := hb.cell hp h.c0
  c1 := hb.cell hp h.c1
  c2 := hb.cell hp h.c2
  f1 := (hb.frozen hp h.c1).trans h.f1
  f2 := (hb.frozen hp h.c2).trans h.f2
  th := fun i hi => hb.there hg (h.th i hi)
  rg := fun i x hx => hb.range hg (h.rg i x hx)
theorem below (h : BoxRaw w p g room f n R) (hb : Below w.heap.size w w') : BoxRaw w' p g room f n R := h.upd (Upd.ofBelow [] hb) (by simp) (by simp)

/-- A letter into the ring. -/
theorem ring (h : BoxRaw w p g room f n R) {s : Nat} (hs : s < room) (x : Let) : BoxRaw (w.setCells g (s * 6) x.cells) p g room f n (fun t => if t = s then some x else R t) := by
  have hu : Upd [g] w (w.setCells g (s * 6) x.cells) := (Upd.refl [g] w).setCells (by simp) _ _
  have hp : p ∉ [g] := by simp [h.ne]
  refine ⟨h.ne, h.room0, h.room1, hu.cell hp h.c0, hu.cell hp h.c1, hu.cell hp h.c2, (hu.frozen hp h.c1).trans h.f1, (hu.frozen hp h.c2).trans h.f2, fun t ht => World.there_setCells (h.th t ht) _ _ _, ?_⟩
  intro t y hy
  by_cases ht : t = s
  · subst ht
    rw [if_pos rfl] at hy
    obtain rfl := Option.some.inj hy
    exact World.rangeAt_setCells_same _ _ _ _ (h.th t hs)
  · rw [if_neg ht] at hy
    refine World.rangeAt_setCells_apart (h.rg t y hy) _ _ _ (.inr ?_)
    show t * 6 + 6 ≤ s * 6 ∨ s * 6 + 6 ≤ t * 6
    omega

theorem first (h : BoxRaw w p g room f n R) (k : Nat) : BoxRaw (w.setCell ⟨p, 1, none⟩ (.int .i64 k)) p g room k n R := by
  have hu : Upd [p] w (w.setCell ⟨p, 1, none⟩ (.int .i64 k)) := (Upd.refl [p] w).setCell (by simp) _
  have hg : g ∉ [p] := by simp [Ne.symm h.ne]
  refine ⟨h.ne, h.room0, h.room1, ?_, ?_, ?_, ?_, ?_, fun t ht => hu.there hg (h.th t ht), fun t x hx => hu.range hg (h.rg t x hx)⟩
  · rw [World.cell?_setCell_other _ _ _ _ (by simp)]; exact h.c0
  · rw [World.cell?_setCell_same _ _ _ h.c1]
  · rw [World.cell?_setCell_other _ _ _ _ (by simp)]; exact h.c2
  · rw [World.frozen?_setCell]; exact h.f1
  · rw [World.frozen?_setCell]; exact h.f2
theorem count (h : BoxRaw w p g room f n R) (k : Nat) : BoxRaw (w.setCell ⟨p, 2, none⟩ (.int .i64 k)) p g room f k R := by
  have hu : Upd [p] w (w.setCell ⟨p, 2, none⟩ (.int .i64 k)) := (Upd.refl [p] w).setCell (by simp) _
  have hg : g ∉ [p] := by simp [Ne.symm h.ne]
  refine ⟨h.ne, h.room0, h.room1, ?_, ?_, ?_, ?_, ?_, fun t ht => hu.there hg (h.th t ht), fun t x hx => hu.range hg (h.rg t x hx)⟩
  · rw [World.cell?_setCell_other _ _ _ _ (by simp)]; exact h.c0
  · rw [World.cell?_setCell_other _ _ _ _ (by simp)]; exact h.c1
  · rw [World.cell?_setCell_same _ _ _ h.c2]
  · rw [World.frozen?_setCell]; exact h.f1
  · rw [World.frozen?_setCell]; exact h.f2
end BoxRaw

/-- The letters of a ring, from a first place on. -/
def Ring (R : Nat → Option Let) (room f : Nat) (L : List Let) : Prop := ∀ i x, L[i]? = some x → R ((f + i) % room) = some x

/-- A box has these letters. -/
def BoxAt (w : World) (p g room f : Nat) (L : List Let) : Prop := f < room ∧ L.length ≤ room ∧ ∃ R, BoxRaw w p g room f L.length R ∧ Ring R room f L

theorem BoxAt.upd {F : List Nat} {w w' : World} {p g room f : Nat} {L : List Let} (h : BoxAt w p g room f L) (hb : Upd F w w') (hp : p ∉ F) (hg : g ∉ F) : BoxAt w' p g room f L := by
  obtain ⟨h1, h2, R, h3, h4⟩ := h
  exact ⟨h1, h2, R, h3.upd hb hp hg, h4⟩
theorem BoxAt.below {w w' : World} {p g room f : Nat} {L : List Let} (h : BoxAt w p g room f L) (hb : Below w.heap.size w w') : BoxAt w' p g room f L := h.upd (Upd.ofBelow [] hb) (by simp) (by simp)

theorem slot_ne {room f i j : Nat} (hf : f < room) (hi : i < room) (hj : j < room) (hij : i ≠ j) : (f + i) % room ≠ (f + j) % room := by
  intro h
  have e : ∀ k, k < room → (f + k) % room = if f + k < room then f + k else f + k - room := by
    intro k hk
    split
    · exact Nat.mod_eq_of_lt (by omega)
    · rw [Nat.mod_eq_sub_mod (by omega)]; exact Nat.mod_eq_of_lt (by omega)
  rw [e i hi, e j hj] at h
  split at h <;> split at h <;> omega

theorem Ring.put {R : Nat → Option Let} {room f : Nat} {L : List Let} (h : Ring R room f L) (hf : f < room) (hl : L.length < room) (x : Let) : Ring (fun t => if t = (f + L.length) % room then some x else R t) room f (L ++ [x]) := by
  intro i y hy
  by_cases hi : i < L.length
  · rw [List.getElem?_append_left hi] at hy
    have := slot_ne hf (show i < room by omega) hl (by omega)
    simp only [if_neg this]
    exact h i y hy
  · have hi2 : i = L.length := by
      have := (List.getElem?_eq_some_iff.1 hy).1
      simp at this; omega
    subst hi2
    simp at hy
    simp [hy]

theorem Ring.turn {R : Nat → Option Let} {room f : Nat} {L : List Let} (h : Ring R room f L) (hf : f < room) (hl : L.length = room) (x : Let) : Ring (fun t => if t = f then some x else R t) room ((f + 1) % room) (L.tail ++ [x]) := by
  intro i y hy
  have hlen := (List.getElem?_eq_some_iff.1 hy).1
  simp at hlen
  have e1 : ((f + 1) % room + i) % room = (f + (i + 1)) % room := by rw [Nat.mod_add_mod]; congr 1; omega
  by_cases hi : i + 1 < L.length
  · rw [List.getElem?_append_left (by simp; omega), List.getElem?_tail] at hy
    have h0 := slot_ne hf (show i + 1 < room by omega) (show 0 < room by omega) (by omega)
    have e0 : (f + 0) % room = f := by rw [Nat.add_zero, Nat.mod_eq_of_lt hf]
    rw [e0] at h0
    simp only [e1, if_neg h0]
    exact h (i + 1) y hy
  · have hi2 : i + 1 = room := by omega
    have e2 : (f + (i + 1)) % room = f := by rw [hi2, Nat.add_mod_right, Nat.mod_eq_of_lt hf]
    have hi3 : i = L.tail.length := by simp; omega
    rw [List.getElem?_append_right (by omega), hi3] at hy
    simp at hy
    simp [e1, e2, hy]

end Go.Proofs.Ytchkbbkcflmcmaa
