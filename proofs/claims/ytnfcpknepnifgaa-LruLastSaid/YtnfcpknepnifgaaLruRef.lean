/- The document's table of things by keys. -/
import Derived.Test.YtnfcpknepnifgaaStr
import Derived.Test.YtnfcpknepnifgaaCel
import Derived.Test.YtnfcpknepnifgaaMix
import Derived.Deep.CutRange
import Derived.Deep.DeepCutAuto
import Derived.Deep.CutBlock
set_option linter.unusedVariables false
namespace Go.Proofs.Ytnfcpknepnifgaa
open Go.RowKit

structure Th where
  key : ByteArray
  v : Int
def thR : Rec Th := ⟨61, 37, 2, 24, fun x => .agg #[.string x.key, .int .i64 x.v], ⟨⟨#[]⟩, 0⟩⟩
theorem thOk : thR.Ok where
  pos := by decide
  small := by decide
  bsmall := by decide
  len := fun _ => rfl
  one := by
    intro x v hv
    simp [Rec.cells, thR, Value.cells] at hv
    rcases hv with rfl | rfl <;> rfl
  slice := Try.underlying37
  info := ⟨_, rfl, rfl, rfl, rfl⟩
  fill := by
    intro y
    rw [show ((Array.range (1 * thR.n)).map (fun x => (thR.val thR.zero).cells[x % (thR.val thR.zero).cells.size]!)) = #[.string ⟨#[]⟩, .int .i64 0] from by apply Array.toList_inj.1; rw [Array.toList_map, Array.toList_range]; rfl]
    simp [Instr.fill, Value.cells, thR]
theorem th_cells {w : World} {b o : Nat} {x : Th} (h : w.rangeAt b o (thR.cells x)) : w.cell? ⟨b, o, none⟩ = some (.string x.key) ∧ w.cell? ⟨b, o + 1, none⟩ = some (.int .i64 x.v) :=
  ⟨by simpa using h 0 _ rfl, by simpa using h 1 _ rfl⟩

/-- The place of a key; -1: there is none. -/
def ixK (k : ByteArray) : List Th → Nat → Int
  | [], _ => -1
  | t :: r, i => if t.key = k then (i : Int) else ixK k r (i + 1)
def IxRest (k : ByteArray) (T : List Th) (i : Nat) : Prop := ixK k T 0 = ixK k (T.drop i) i
theorem drop_cons {α : Type} {L : List α} {k : Nat} {x : α} (hx : L[k]? = some x) : L.drop k = x :: L.drop (k + 1) := by
  have hk : k < L.length := (List.getElem?_eq_some_iff.1 hx).1
  rw [List.drop_eq_getElem_cons hk]
  rw [List.getElem?_eq_getElem hk] at hx
  rw [Option.some.inj hx]
theorem IxRest.step {k : ByteArray} {T : List Th} {i : Nat} {x : Th} (h : IxRest k T i) (hx : T[i]? = some x) (h1 : ¬ x.key = k) : IxRest k T (i + 1) := by
  unfold IxRest at *
  rw [h, drop_cons hx, ixK, if_neg h1]
theorem IxRest.hit {k : ByteArray} {T : List Th} {i : Nat} {x : Th} (h : IxRest k T i) (hx : T[i]? = some x) (h1 : x.key = k) : ixK k T 0 = i := by
  unfold IxRest at *
  rw [h, drop_cons hx, ixK, if_pos h1]
theorem IxRest.done {k : ByteArray} {T : List Th} (h : IxRest k T T.length) : ixK k T 0 = -1 := by
  unfold IxRest at h
  rw [h]; simp [ixK]
theorem ixK_none {k : ByteArray} : ∀ (L : List Th) (i : Nat), (∀ x ∈ L, x.key ≠ k) → ixK k L i = -1
  | [], _, _ => rfl
  | t :: r, i, h => by
    unfold ixK
    rw [if_neg (h t (by simp))]
    exact ixK_none r (i + 1) (fun x hx => h x (by simp [hx]))
theorem ixK_at {k : ByteArray} : ∀ (L : List Th) (i j : Nat) (x : Th), (L.map Th.key).Nodup → L[j]? = some x → x.key = k → ixK k L i = ((i + j : Nat) : Int)
  | [], _, _, _, _, h, _ => by simp at h
  | t :: r, i, j, x, hn, h, e => by
    rw [List.map_cons, List.nodup_cons] at hn
    unfold ixK
    cases j with
    | zero => cases h; rw [if_pos e]; rfl
    | succ j =>
      rw [if_neg, ixK_at r (i + 1) j x hn.2 h e]
      · congr 1; omega
      · intro e2
        exact hn.1 (by rw [e2, ← e]; exact List.mem_map.2 ⟨x, List.mem_of_getElem? h, rfl⟩)

/-- The document's table in memory. -/
structure RT (B : Nat) (w : World) (r : Nat) (room : Int) (u : Value) (L : List Th) : Prop where
  box : Cel w r [.int .i64 room, u]
  out : ReadsOut thR [r] w u L
  low : B ≤ r
  few : L.length ≤ 100000
theorem RT.below {B : Nat} {w w' : World} {r : Nat} {room : Int} {u : Value} {L : List Th} (h : RT B w r room u L) (hb : Below w.heap.size w w') : RT B w' r room u L :=
  ⟨h.box.below hb, h.out.upd (Upd.ofBelow _ hb), h.low, h.few⟩
theorem RT.lt {B : Nat} {w : World} {r : Nat} {room : Int} {u : Value} {L : List Th} (h : RT B w r room u L) : r < w.heap.size := h.box.lt (by simp)
def tagg (room : Int) (u : Value) : Value := .agg [.int .i64 room, u].toArray

set_option maxRecDepth 100000 in
set_option maxHeartbeats 1000000 in
theorem rfind_any (w : World) (room : Int) (u : Value) (L : List Th) (hv : Reads thR w u L) (hbig : L.length ≤ 1000000) (k : ByteArray) :
    Calls Try.prog 29 #[tagg room u, .string k] w fun e w' => e = .returned (.int .i64 (ixK k L 0)) ∧ Below w.heap.size w w' := by
  obtain ⟨av, capv, rfl⟩ := hv.form
  have hb : Below w.heap.size w (w.alloc (.cells [.int .i64 room, .slice av L.length capv].toArray 39)) := (Below.refl _ _).alloc (Nat.le_refl _) _
  have hC := Cel.new w 39 [.int .i64 room, .slice av L.length capv]
  have hv1 := hv.below hb
  obtain ⟨W1, hW1⟩ : ∃ W1, W1 = w.alloc (.cells [.int .i64 room, .slice av L.length capv].toArray 39) := ⟨_, rfl⟩
  rw [← hW1] at hb hC hv1
  have c1 := hC.get (i := 1) rfl
  have HV := Lib.hid hv1
  clear hv hv1 hC
  go_enter Try.func29, Try.ntmps29
  go_upto_region 1 with fail
  show Code.wp _ _ _ _ (w.alloc (.cells [.int .i64 room, .slice av L.length capv].toArray 39))
  rw [← hW1]
  clear hW1
  go_wp2_with fail
  go_loop [5] (fun i => ∃ j : Nat, j ≤ L.length ∧ i = .int .i64 j ∧ IxRest k L j) (fun i => L.length - (intOf i).toNat)
  case atStart => exact ⟨0, by omega, rfl, rfl⟩
  case round =>
    obtain ⟨j, hj, rfl, hno⟩ := hrel
    have HN := Lib.hid hno
    clear hno
    by_cases hlt : j < L.length
    · obtain ⟨y, hy⟩ : ∃ y, L[j]? = some y := ⟨_, List.getElem?_eq_getElem hlt⟩
      obtain ⟨b, off, rfl, hr⟩ := HV.out.at hy
      have m0 : W1.cell? ⟨b, off + j * 2, none⟩ = some (.string y.key) := (th_cells hr).1
      clear hr
      by_cases ho : y.key = k
      · have HM := Lib.hid (HN.out.hit hy ho)
        have hob : (y.key.toList == k.toList) = true := by rw [beq_iff_eq, bytes_inj]; exact ho
        clear HN hy ho
        go_wp2_with fail
        go_ret
        exact ⟨by rw [HM.out]; rfl, hb⟩
      · have HM := Lib.hid (HN.out.step hy ho)
        have hob : (y.key.toList == k.toList) = false := by rw [beq_eq_false_iff_ne, Ne, bytes_inj]; exact ho
        clear HN hy ho
        go_wp2_with fail
        go_round
        case rel => exact ⟨j + 1, by omega, by go_num, HM.out⟩
        case measure => simp [intOf]; omega
    · obtain rfl : j = L.length := by omega
      have HM := Lib.hid (HN.out.done)
      clear HN
      go_wp2_with fail
      go_ret
      exact ⟨by rw [HM.out]; rfl, hb⟩

end Go.Proofs.Ytnfcpknepnifgaa
