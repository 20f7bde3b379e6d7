/- New, Keys. -/
import Derived.Test.YteifjlhkfmoljaaHLru2
set_option linter.unusedVariables false
namespace Go.Proofs.Yteifjlhkfmoljaa
open Go.RowKit

theorem new_none (w : World) (room : Int) (h : room < 1) : Calls Try.prog 15 #[.int .i64 room] w fun e w' => e = .returned (.pointer none) ∧ w = w' := by
  go_enter Try.func15, Try.ntmps15
  go_wp2_with fail
  go_ret
  exact ⟨rfl, rfl⟩
theorem new_any (w : World) (room : Int) (h : 1 ≤ room) : Calls Try.prog 15 #[.int .i64 room] w fun e w' => ∃ t c m, e = .returned (.pointer (some ⟨t, 0, none⟩)) ∧ Below w.heap.size w w' ∧ TabH w.heap.size w' t room c m [] := by
  have hmm := @run_makeMap Try.prog
  have hC := Cel.new w 71 [.pointer none, .pointer none]
  have hb1 : Below w.heap.size w (w.alloc (.cells #[.pointer none, .pointer none] 71)) := (Below.refl _ _).alloc (Nat.le_refl _) _
  have hs1 : (w.alloc (.cells #[.pointer none, .pointer none] 71)).heap.size = w.heap.size + 1 := by simp
  obtain ⟨W1, hW1⟩ : ∃ W1, W1 = w.alloc (.cells #[.pointer none, .pointer none] 71) := ⟨_, rfl⟩
  rw [show [Value.pointer none, Value.pointer none].toArray = #[Value.pointer none, Value.pointer none] from rfl] at hC
  rw [← hW1] at hC hb1 hs1
  have hM := MapF.made (strK 9) W1
  have hb2 : Below W1.heap.size W1 (W1.alloc (.map #[] 0)) := (Below.refl _ _).alloc (Nat.le_refl _) _
  have hs2 : (W1.alloc (.map #[] 0)).heap.size = W1.heap.size + 1 := by simp
  obtain ⟨W2, hW2⟩ : ∃ W2, W2 = W1.alloc (.map #[] 0) := ⟨_, rfl⟩
  rw [← hW2] at hM hb2 hs2
  have hT := Cel.new W2 74 [.int .i64 room, .pointer (some ⟨w.heap.size, 0, none⟩), .map (some W1.heap.size)]
  have hb3 : Below W2.heap.size W2 (W2.alloc (.cells #[.int .i64 room, .pointer (some ⟨w.heap.size, 0, none⟩), .map (some W1.heap.size)] 74)) := (Below.refl _ _).alloc (Nat.le_refl _) _
  have hs3 : (W2.alloc (.cells #[.int .i64 room, .pointer (some ⟨w.heap.size, 0, none⟩), .map (some W1.heap.size)] 74)).heap.size = W2.heap.size + 1 := by simp
  have fin := Lib.hid (show Below w.heap.size w (W2.alloc (.cells #[.int .i64 room, .pointer (some ⟨w.heap.size, 0, none⟩), .map (some W1.heap.size)] 74)) ∧ TabH w.heap.size (W2.alloc (.cells #[.int .i64 room, .pointer (some ⟨w.heap.size, 0, none⟩), .map (some W1.heap.size)] 74)) W2.heap.size room w.heap.size W1.heap.size [] from by
    refine ⟨bthen' (bthen' hb1 hb2) hb3, hT, ⟨(hC.below hb2).below hb3, fun i g v hi => by simp [lks] at hi, by simp [cF, blocks, lks]⟩, ?_, by simp, ?_, ?_, by simp⟩
    · exact (hM.below hb3).congr (fun k => rfl)
    · simp [tF, cF, blocks, lks]; omega
    · intro b hb
      simp [tF, cF, blocks, lks] at hb
      omega)
  clear hC hM hT hb1 hb2 hb3 hs1 hs2 hs3
  go_enter Try.func15, Try.ntmps15
  go_wp2_with fail
  go_ret
  subst hW2
  subst hW1
  exact ⟨_, _, _, rfl, by simpa using fin.out.1, by simpa using fin.out.2⟩

theorem keys_nil (w : World) : Calls Try.prog 46 #[.pointer none] w fun e w' => e = .returned (.slice none 0 0) ∧ w = w' := by
  go_enter Try.func46, Try.ntmps46
  go_wp2_with fail
  go_ret
  exact ⟨rfl, rfl⟩
/-- A list of texts of its own is handed back. -/
def GivesS (w : World) (L : List ByteArray) (e : Ending) (w' : World) : Prop := ∃ v, e = .returned v ∧ Below w.heap.size w w' ∧ Owns strR w.heap.size w' v L

set_option maxRecDepth 100000 in
set_option maxHeartbeats 4000000 in
theorem keys_any (w : World) (B t : Nat) (room : Int) (c m : Nat) (E : List (Ent Hs)) (h : TabH B w t room c m E) (hbig : E.length < 100000) :
    Calls Try.prog 46 #[.pointer (some ⟨t, 0, none⟩)] w (GivesS w (E.map Ent.key)) := by
  have c1 := h.box.get (i := 1) rfl
  have HT := Lib.hid h
  have hO1 := Owns.nil strR w.heap.size w
  have KF := Lib.hid (chainFirst_any w c _ h.ch)
  have hll : (lks TE E).length = E.length := by simp [lks]
  clear h
  go_enter Try.func46, Try.ntmps46
  go_wp2_with (go_at_call 52; refine KF.out.mono ?_; rintro e w' ⟨rfl, rfl⟩)
  go_loopw [3, 4] (fun u l wr => ∃ k : Nat, k ≤ E.length ∧ l = ptr (lks TE E)[k]? ∧ Below w.heap.size w wr ∧ Owns strR w.heap.size wr u ((E.map Ent.key).take k)) (fun u l _ => E.length - sliceLen u)
  case atStart => exact ⟨0, by omega, rfl, Below.refl _ _, hO1⟩
  case round =>
    clear hO1 c1
    obtain ⟨k, hk, hl, hW, hO⟩ := hrel
    have HO := Lib.hid hO
    have hwr := hW.size
    obtain ⟨a3, cap3, hf⟩ := hO.form
    have hlen : ((E.map Ent.key).take k).length = k := by rw [List.length_take, List.length_map]; omega
    rw [hlen] at hf
    subst hf
    clear hO
    have HL := Lib.hid hl
    clear hl
    by_cases hlt : k < E.length
    · obtain ⟨x, hx⟩ : ∃ x, E[k]? = some x := ⟨_, List.getElem?_eq_getElem hlt⟩
      have hl := HL.out
      rw [HT.out.at_lk hx] at hl
      have hl2 := hl.trans (show ptr (some (x.lk TE)) = .pointer (some ⟨x.g, 0, none⟩) from rfl)
      clear hl HL
      subst hl2
      have HT2 := Lib.hid (HT.out.below hW)
      have KO := Lib.hid (of_any wr x.g x.e _ _ (HT2.out.node hx))
      have n0 := (HT2.out.ents x (List.mem_of_getElem? hx)).get (i := 0) rfl
      have KN := Lib.hid (fun (W : World) (hb : Below wr.heap.size wr W) => linkNext_any W c _ (HT2.out.below hb).ch k x.g _ (HT2.out.at_lk hx))
      have T := Lib.hid (take_snoc (L := E.map Ent.key) (k := k) (x := x.key) (by rw [List.getElem?_map, hx]; rfl))
      have HX := Lib.hid hx
      clear hx hll
      go_wp2_with (first
        | (go_at_call 33; refine KO.out.mono ?_; rintro e w' ⟨rfl, rfl⟩)
        | (refine wl_build_rec strOk rfl _ rfl x.key rfl ?_; have hx5 := built_range (R := strR) (w := wr) x.key; have hb5 : Below wr.heap.size wr (wr.alloc (.cells (strR.val x.key).cells strR.ty)) := (Below.refl _ _).alloc (Nat.le_refl _) _; generalize wr.alloc (.cells (strR.val x.key).cells strR.ty) = W5 at hx5 hb5 ⊢; have hOo := HO.out.below hb5; have hszT := hb5.size)
        | (refine wl_append_rec strOk rfl _ _ rfl w.heap.size _ ((E.map Ent.key).take k) rfl hOo wr.heap.size 0 1 x.key rfl hx5 (by omega) (by omega) ?_; intro g6 cap W6 hO6 hg6 hat6; have hW6 := (bthen' hW hb5).grown hg6 (by omega) (fun k hk => (hOo.lt k hk).1))
        | (go_at_call 53; refine (linkNext_any W6 c _ (HT.out.below hW6).ch k x.g _ (HT2.out.at_lk HX.out)).mono ?_; rintro e w' ⟨rfl, rfl⟩))
      rw [T.out, hlen] at hO6
      go_roundw
      case rel => exact ⟨k + 1, by omega, rfl, hW6, hO6⟩
      case measure => simp [sliceLen]; omega
    · obtain rfl : k = E.length := by omega
      have hl := HL.out
      rw [List.getElem?_eq_none (by omega)] at hl
      have hl2 := hl.trans (show ptr none = .pointer none from rfl)
      clear hl HL
      subst hl2
      have hO := HO.out
      rw [List.take_of_length_le (by simp)] at hO
      have HO2 := Lib.hid hO
      clear HO hO
      go_wp2_with fail
      go_ret
      exact ⟨_, rfl, hW, HO2.out⟩

end Go.Proofs.Yteifjlhkfmoljaa
