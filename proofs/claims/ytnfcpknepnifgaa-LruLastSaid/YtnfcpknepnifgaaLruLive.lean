/- The page's example; nothing of none. -/
import Derived.Test.YtnfcpknepnifgaaLru3
set_option linter.unusedVariables false
namespace Go.Proofs.Ytnfcpknepnifgaa
open Go.RowKit

theorem two_strings (w : World) (a b : ByteArray) : Reads strR (w.alloc (.cells #[.string a, .string b] 9)) (.slice (some ⟨w.heap.size, 0, none⟩) 2 2) [a, b] := by
  refine .inr ⟨w.heap.size, 0, 2, rfl, fun i x hx j v hv => ?_⟩
  rw [cell_of_row _ w.heap.size _ _ 9 (0, 0) (heap_alloc_new _ _)]
  have hj : j = 0 ∧ v = .string x := by
    cases j with
    | zero => simp [Rec.cells, strR, Value.cells] at hv; exact ⟨rfl, hv.symm⟩
    | succ j => simp [Rec.cells, strR, Value.cells] at hv
  obtain ⟨rfl, rfl⟩ := hj
  match i, hx with
  | 0, hx => simp at hx; subst hx; rfl
  | 1, hx => simp at hx; subst hx; rfl
theorem key_ne {a b : UInt8} (h : a ≠ b) : (⟨#[a]⟩ : ByteArray) ≠ ⟨#[b]⟩ := by
  intro e
  injection e with e
  simp at e
  exact h e

def RoomGives (w : World) (B t : Nat) (room : Int) (c m : Nat) (E : List (Ent Int)) (k : ByteArray) (v : Int) (e : Ending) (w' : World) : Prop :=
  e = .returned (.tuple #[.string ⟨#[]⟩, .bool false]) ∧ ∃ x : Ent Int, x.key = k ∧ x.v = v ∧ Upd (tF TE t c m E) w w' ∧ TabI B w' t room c m (x :: E)
theorem put_room (w : World) (B t : Nat) (room : Int) (c m : Nat) (E : List (Ent Int)) (h : TabI B w t room c m E) (hB : B ≤ w.heap.size) (k : ByteArray) (hk : ∀ x ∈ E, x.key ≠ k) (v : Int) (hbig : E.length ≤ 1000000) (hr : (E.length : Int) + 1 ≤ room) :
    Calls Try.prog 8 #[.pointer (some ⟨t, 0, none⟩), .string k, .int .i64 v] w (RoomGives w B t room c m E k v) :=
  (put_new w B t room c m E h hB k hk v hbig).mono fun e w' ⟨x, h1, h2, h3, h4⟩ => by
    rcases h4 with ⟨_, h5, h6⟩ | ⟨h5, _⟩
    · exact ⟨h5, x, h1, h2, h3, h6⟩
    · omega
def FullGives (w : World) (B t : Nat) (room : Int) (c m : Nat) (E : List (Ent Int)) (k : ByteArray) (v : Int) (e : Ending) (w' : World) : Prop :=
  ∃ x y : Ent Int, e = .returned (.tuple #[.string y.key, .bool true]) ∧ x.key = k ∧ x.v = v ∧ Upd (tF TE t c m E) w w' ∧ (x :: E)[E.length]? = some y ∧ TabI B w' t room c m ((x :: E).eraseIdx E.length)
theorem put_full (w : World) (B t : Nat) (room : Int) (c m : Nat) (E : List (Ent Int)) (h : TabI B w t room c m E) (hB : B ≤ w.heap.size) (k : ByteArray) (hk : ∀ x ∈ E, x.key ≠ k) (v : Int) (hbig : E.length ≤ 1000000) (hr : room < (E.length : Int) + 1) :
    Calls Try.prog 8 #[.pointer (some ⟨t, 0, none⟩), .string k, .int .i64 v] w (FullGives w B t room c m E k v) :=
  (put_new w B t room c m E h hB k hk v hbig).mono fun e w' ⟨x, h1, h2, h3, h4⟩ => by
    rcases h4 with ⟨h5, _⟩ | ⟨_, y, h5, h6, h7⟩
    · omega
    · exact ⟨x, y, h6, h1, h2, h3, h5, h7⟩

set_option maxRecDepth 100000 in
set_option maxHeartbeats 4000000 in
theorem live12_any (w : World) : Calls Try.prog 7 #[] w fun e w' => e = .returned (.bool true) ∧ Below w.heap.size w w' := by
  go_enter Try.func7, Try.ntmps7
  go_upto_region 2 with (go_at_call 6; refine (new_any w 2 (by omega)).mono ?_; rintro e W1 ⟨t, c, m, rfl, hb1, hT1⟩)
  have hs1 := hb1.size
  go_upto_region 3 with (go_at_call 8; refine (put_room W1 w.heap.size t 2 c m [] hT1 hs1 ⟨#[97]⟩ (by simp) 1 (by simp) (by simp)).mono ?_; rintro e W2 ⟨rfl, xa, hka, hva, hU2, hT2⟩)
  have hs2 := hU2.size
  have hW2 := hU2.toBelow hb1 hs1 (fun i hi => (hT1.low i hi).1)
  have HKA := Lib.hid hka
  have HVA := Lib.hid hva
  have K3 := Lib.hid (put_room W2 w.heap.size t 2 c m [xa] hT2 (by omega) ⟨#[98]⟩ (by simp only [List.mem_singleton]; rintro x rfl; rw [hka]; exact key_ne (by decide)) 2 (by simp) (by simp))
  clear hka hva
  go_upto_region 4 with (go_at_call 8; refine K3.out.mono ?_; rintro e W3 ⟨rfl, xb, hkb, hvb, hU3, hT3⟩)
  have hs3 := hU3.size
  have hW3 := hU3.toBelow hW2 hW2.size (fun i hi => (hT2.low i hi).1)
  have HKB := Lib.hid hkb
  have K4 := get_yes W3 w.heap.size t 2 c m [xb, xa] hT3 1 xa rfl
  rw [HKA.out, HVA.out] at K4
  have K4 := Lib.hid K4
  clear hkb hvb K3 hW2 hU2 hU3 hT1 hT2
  go_upto_region 5 with (go_at_call 15; refine K4.out.mono ?_; rintro e W4 ⟨rfl, hU4, hT4⟩)
  replace hT4 : TabI w.heap.size W4 t 2 c m [xa, xb] := hT4
  have hs4 := hU4.size
  have hW4 := hU4.toBelow hW3 hW3.size (fun i hi => (hT3.low i hi).1)
  have K5 := Lib.hid (put_full W4 w.heap.size t 2 c m [xa, xb] hT4 (by omega) ⟨#[99]⟩ (by
    intro x hx
    simp only [List.mem_cons, List.not_mem_nil, or_false] at hx
    rcases hx with rfl | rfl
    · rw [HKA.out]; exact key_ne (by decide)
    · rw [HKB.out]; exact key_ne (by decide)) 3 (by simp) (by simp))
  clear hW3 hU4 hT3 K4
  go_upto_region 6 with (go_at_call 8; refine K5.out.mono ?_; rintro e W5 ⟨xc, y, rfl, hkc, hvc, hU5, hy, hT5⟩; obtain rfl : xb = y := (by simpa using hy))
  replace hT5 : TabI w.heap.size W5 t 2 c m [xc, xa] := hT5
  have hW5 := Lib.hid (hU5.toBelow hW4 hW4.size (fun i hi => (hT4.low i hi).1))
  have KK := keys_any W5 w.heap.size t 2 c m [xc, xa] hT5 (by simp)
  rw [show [xc, xa].map Ent.key = [⟨#[99]⟩, ⟨#[97]⟩] from by simp [hkc, HKA.out]] at KK
  have KK := Lib.hid KK
  have hkbe : xb.key.toList = [98] := by rw [HKB.out, Lib.toList_data]
  clear hkc hvc hy hU5 hW4 hT4 K5 hT5
  go_wp2_with (first
    | (go_at_call 9; refine KK.out.mono ?_; rintro e W6 ⟨v6, rfl, hb6, hO6⟩; have hT6 := two_strings W6 ⟨#[99]⟩ ⟨#[97]⟩; have hb7 : Below W6.heap.size W6 (W6.alloc (.cells #[.string ⟨#[99]⟩, .string ⟨#[97]⟩] 9)) := (Below.refl _ _).alloc (Nat.le_refl _) _; have HO6 := Lib.hid ((hO6.lts strOk).below hb7); clear hO6)
    | (go_at_call 11; refine (texts_any _ _ _ _ _ HO6.out hT6 (by simp)).mono ?_; rintro e W8 ⟨rfl, hb8⟩))
  go_ret
  exact ⟨rfl, bthen' (bthen' (bthen' hW5.out hb6) hb7) hb8⟩

theorem lruNil_of (w : World) (k : ByteArray) (v : Int) : Calls Try.prog 5 #[.string k, .int .i64 v] w fun e w' => e = .returned (.bool true) ∧ Below w.heap.size w w' := by
  go_enter Try.func5, Try.ntmps5
  go_wp2_with (first
    | (go_at_call 8; refine (put_nil _ _ _).mono ?_; rintro e w' ⟨rfl, rfl⟩)
    | (go_at_call 15; refine (get_nil _ _).mono ?_; rintro e w' ⟨rfl, rfl⟩)
    | (go_at_call 10; refine (peek_nil _ _).mono ?_; rintro e w' ⟨rfl, rfl⟩)
    | (go_at_call 16; refine (drop_nil _ _).mono ?_; rintro e w' ⟨rfl, rfl⟩)
    | (go_at_call 9; refine (keys_nil _).mono ?_; rintro e w' ⟨rfl, rfl⟩)
    | (go_at_call 14; refine (len_nil _).mono ?_; rintro e w' ⟨rfl, rfl⟩)
    | (go_at_call 7; refine (live12_any _).mono ?_; rintro e W8 ⟨rfl, hb8⟩))
  go_ret
  exact ⟨rfl, hb8⟩

end Go.Proofs.Ytnfcpknepnifgaa
