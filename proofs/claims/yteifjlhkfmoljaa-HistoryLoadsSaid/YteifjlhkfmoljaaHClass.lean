/- Class of a history's table: the first limit that is not below. -/
import Derived.Test.YteifjlhkfmoljaaHObs
set_option linter.unusedVariables false
namespace Go.Proofs.Yteifjlhkfmoljaa
open Go.RowKit

def intR : Rec Int := ⟨3, 23, 1, 8, fun n => .int .i64 n, 0⟩
theorem intOk : intR.Ok where
  pos := by decide
  small := by decide
  bsmall := by decide
  len := fun _ => rfl
  one := by intro x v hv; simp [Rec.cells, intR, Value.cells] at hv; subst hv; rfl
  slice := Try.underlying23
  info := ⟨_, rfl, rfl, rfl, rfl⟩
  fill := by
    intro y
    rw [show ((Array.range (1 * intR.n)).map (fun x => (intR.val intR.zero).cells[x % (intR.val intR.zero).cells.size]!)) = #[.int .i64 0] from by apply Array.toList_inj.1; rw [Array.toList_map, Array.toList_range]; rfl]
    simp [Instr.fill, Value.cells, intR]
def inI (n : Int) : Prop := -9223372036854775808 ≤ n ∧ n ≤ 9223372036854775807

theorem cls1_any (w : World) (n x : Int) (g : Nat) (hn : inI n) (hg : w.cell? ⟨g, 0, none⟩ = some (.int .u64 x)) :
    Calls Try.prog 21 #[.int .i64 n, .pointer (some ⟨g, 0, none⟩)] w fun e w' => e = .returned (.bool (decide (x ≤ max n 0))) ∧ w = w' := by
  obtain ⟨h0, h1⟩ := hn
  by_cases hn0 : n < 0
  · have e1 : max n 0 = 0 := by omega
    rw [e1]
    go_enter Try.func21, Try.ntmps21
    go_wp2_with fail
    go_ret
    exact ⟨rfl, rfl⟩
  · have e1 : max n 0 = n := by omega
    rw [e1]
    go_enter Try.func21, Try.ntmps21
    go_wp2_with fail
    go_ret
    exact ⟨rfl, rfl⟩

/-- The first of some numbers that x is not above. -/
def idx (x : Int) (L : List Int) : Nat := L.findIdx fun n => decide (x ≤ max n 0)
def firstV (x : Int) (L : List Int) : Int := if idx x L < L.length then (idx x L : Int) else -1
theorem idx_found {x : Int} {L : List Int} {k : Nat} {n : Int} (hn : L[k]? = some n) (hx : x ≤ max n 0) (ha : ∀ j n, j < k → L[j]? = some n → max n 0 < x) : idx x L = k := by
  obtain ⟨hk, he⟩ := List.getElem?_eq_some_iff.1 hn
  unfold idx
  refine (List.findIdx_eq hk).2 ⟨by rw [he]; exact decide_eq_true hx, fun j hj => ?_⟩
  exact decide_eq_false (Int.not_le.2 (ha j _ hj (List.getElem?_eq_getElem (by omega))))
theorem idx_none {x : Int} {L : List Int} (ha : ∀ j n, j < L.length → L[j]? = some n → max n 0 < x) : idx x L = L.length := by
  unfold idx
  refine List.findIdx_eq_length.2 (fun n hn => ?_)
  obtain ⟨j, hj⟩ := List.mem_iff_getElem?.1 hn
  exact decide_eq_false (Int.not_le.2 (ha j n (List.getElem?_eq_some_iff.1 hj).1 hj))
theorem idx_le (x : Int) (L : List Int) : idx x L ≤ L.length := List.findIdx_le_length

set_option maxRecDepth 100000 in
set_option maxHeartbeats 1000000 in
theorem indexFunc_any (w : World) (v : Value) (L : List Int) (x : Int) (g : Nat) (hv : Reads intR w v L) (hL : ∀ n ∈ L, inI n) (hg : w.cell? ⟨g, 0, none⟩ = some (.int .u64 x)) (hbig : L.length ≤ 1000) :
    Calls Try.prog 20 #[v, .func (.func 21) #[] #[.pointer (some ⟨g, 0, none⟩)]] w fun e w' => e = .returned (.int .i64 (firstV x L)) ∧ w = w' := by
  obtain ⟨av, cv, rfl⟩ := hv.form
  have HV := Lib.hid hv
  have HL := Lib.hid hL
  have HG := Lib.hid hg
  clear hv hL hg
  go_enter Try.func20, Try.ntmps20
  go_wp2_with fail
  go_loopw [5, 8] (fun _ i wr => w = wr ∧ ∃ k : Nat, k ≤ L.length ∧ i = .int .i64 k ∧ ∀ j n, j < k → L[j]? = some n → max n 0 < x) (fun _ i _ => L.length - (intOf i).toNat)
  case atStart => exact ⟨rfl, 0, by omega, rfl, by intro j n hj; omega⟩
  case round =>
    obtain ⟨rfl, k, hk, rfl, hall⟩ := hrel
    have HA := Lib.hid hall
    clear hall
    by_cases hlt : k < L.length
    · obtain ⟨n, hn⟩ : ∃ n, L[k]? = some n := ⟨_, List.getElem?_eq_getElem hlt⟩
      obtain ⟨b, off, rfl, hr⟩ := HV.out.at hn
      have hc : w.cell? ⟨b, off + k, none⟩ = some (.int .i64 n) := by have := hr 0 _ rfl; simpa [intR] using this
      have hin := Lib.hid (HL.out n (List.mem_of_getElem? hn))
      have HN := Lib.hid hn
      clear hr hn
      by_cases hx : x ≤ max n 0
      · have HF := Lib.hid (show firstV x L = k from by unfold firstV; rw [idx_found HN.out hx HA.out, if_pos hlt])
        go_wp2_with (go_at_call 21; refine (cls1_any w n x g hin.out HG.out).mono ?_; rintro e w' ⟨rfl, rfl⟩)
        go_ret
        exact ⟨by rw [HF.out]; rfl, rfl⟩
      · have hx0 := hx
        go_wp2_with (go_at_call 21; refine (cls1_any w n x g hin.out HG.out).mono ?_; rintro e w' ⟨rfl, rfl⟩)
        go_roundw
        case rel => exact ⟨trivial, k + 1, by omega, by go_num, fun j m hj hm => by
          by_cases hjk : j = k
          · subst hjk
            rw [HN.out] at hm
            cases hm
            exact hx0
          · exact HA.out j m (by omega) hm⟩
        case measure => simp [intOf]; omega
    · obtain rfl : k = L.length := by omega
      have HF := Lib.hid (show firstV x L = -1 from by unfold firstV; rw [idx_none HA.out, if_neg (Nat.lt_irrefl _)])
      go_wp2_with fail
      go_ret
      exact ⟨by rw [HF.out]; rfl, rfl⟩

open HistLaw in
def clsV (v : Hs) (L : List Int) (p : Int) : Int := if plcOk v.1 p = true then (idx (ofv v p) L : Int) else 0

open HistLaw in
set_option maxRecDepth 100000 in
set_option maxHeartbeats 1000000 in
theorem class_any (w : World) (B h t : Nat) (room : Int) (c m : Nat) (E : List (Ent Hs)) (H : HTab B w h t room c m E) (k : ByteArray) (v : Value) (L : List Int) (hv : Reads intR w v L) (hL : ∀ n ∈ L, inI n) (hbig : L.length ≤ 1000) (p : Int) :
    Calls Try.prog 9 #[.pointer (some ⟨h, 0, none⟩), .string k, v, .int .i64 p] w fun e w' => e = .returned (.int .i64 (clsV (look k (rws E)) L p)) ∧ Below w.heap.size w w' := by
  obtain ⟨av, cv, rfl⟩ := hv.form
  have KE := Lib.hid (estimate_any w B h t room c m E H k p)
  generalize look k (rws E) = z at KE ⊢
  have HV := Lib.hid hv
  have HL := Lib.hid hL
  clear hv hL H
  have hmf : ∀ (fn : Fn) (first cap : Array Value) (w : World), (Instr.makeFunc fn first cap).run Try.prog w = .ok (.func fn first cap) w := fun _ _ _ _ => rfl
  cases hp : plcOk z.1 p with
  | false =>
    have HC := Lib.hid (show clsV z L p = 0 from by unfold clsV; rw [hp]; rfl)
    have KE2 := KE.out
    rw [hp] at KE2
    have KE2 := Lib.hid KE2
    clear KE hp
    go_enter Try.func9, Try.ntmps9
    go_wp2_with (go_at_call 10; refine KE2.out.mono ?_; rintro e W1 ⟨rfl, hb1⟩)
    go_ret
    exact ⟨by rw [HC.out]; rfl, hb1.alloc hb1.size _⟩
  | true =>
    have HC := Lib.hid (show clsV z L p = (idx (ofv z p) L : Int) from by unfold clsV; rw [hp]; rfl)
    have KE2 := KE.out
    rw [hp] at KE2
    have KE2 := Lib.hid KE2
    clear KE hp
    go_enter Try.func9, Try.ntmps9
    go_upto_region 2 with (go_at_call 10; refine KE2.out.mono ?_; rintro e W1 ⟨rfl, hb1⟩)
    obtain ⟨x, hx⟩ : ∃ x, x = ofv z p := ⟨_, rfl⟩
    rw [← hx] at HC ⊢
    have hb2 : Below w.heap.size w (W1.alloc (.cells #[.int .u64 x] 30)) := hb1.alloc hb1.size _
    have hg : (W1.alloc (.cells #[.int .u64 x] 30)).cell? ⟨W1.heap.size, 0, none⟩ = some (.int .u64 x) := by rw [World.cell?_alloc_new]; rfl
    have KI := Lib.hid (indexFunc_any (W1.alloc (.cells #[.int .u64 x] 30)) (.slice av L.length cv) L x W1.heap.size (HV.out.below hb2) HL.out hg hbig)
    generalize W1.alloc (.cells #[.int .u64 x] 30) = W2 at hb2 KI ⊢
    clear hg
    have hle := idx_le x L
    by_cases hi : idx x L < L.length
    · have KI2 := KI.out
      rw [show firstV x L = (idx x L : Int) from if_pos hi] at KI2
      have KI2 := Lib.hid KI2
      clear KI hx
      go_wp2_with (go_at_call 20; refine KI2.out.mono ?_; rintro e w' ⟨rfl, rfl⟩)
      go_ret
      exact ⟨by rw [HC.out]; rfl, hb2⟩
    · have hil : idx x L = L.length := by omega
      have KI2 := KI.out
      rw [show firstV x L = -1 from if_neg hi] at KI2
      have KI2 := Lib.hid KI2
      have HC2 := Lib.hid (show clsV z L p = (L.length : Int) from by rw [HC.out, hil])
      clear KI hx HC hle hi hil
      go_wp2_with (go_at_call 20; refine KI2.out.mono ?_; rintro e w' ⟨rfl, rfl⟩)
      go_ret
      exact ⟨by rw [HC2.out]; rfl, hb2⟩

end Go.Proofs.Yteifjlhkfmoljaa
