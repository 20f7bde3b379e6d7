/- Flight, the operations of numbers, Live, Ended, Next, New. -/
import Derived.Test.YtddmajgadaooaaaOpFns
set_option linter.unusedVariables false
namespace Go.Proofs.Ytddmajgadaooaaa
open Go.RowKit

theorem quiet_lookup {κ : Type} [DecidableEq κ] {K : KeyK κ} (k0 : K.Ok) {C : World → Prop} {Kp : Act → Prop} {a : Act} {o : Oper} (m x : Operand) (t e : TypeId) (ho : o.op = .lookup t m x false)
    (ht : Try.prog.underlying t = some (.map K.ty e)) {z : Value} (hz : ∀ w, (zeroValue e).run Try.prog w = .ok z w) {b n : Nat} {f : κ → Option Value} (hm : a.eval m = .map (some b)) (h : ∀ w, C w → MapF K w b f n) (k : κ) (hx : a.eval x = K.kv k)
    (hK : Kp (a.put o.dst ((f k).getD z))) : o.quiet Try.prog a C Kp :=
  ⟨(f k).getD z, fun w hw => by
    unfold Oper.quietAt execOp
    simp only [ho, hm, hx, Sem.run_bind, (h w hw).lookup k0 ht (hz w) k, Result.andThen_ok]
    trivial, hK⟩
theorem quiet_buildS {P : Program} {C : World → Prop} {K : Act → Prop} {a : Act} {o : Oper} (t : TypeId) (parts : Array (Nat × Operand)) (ho : o.op = .build t parts)
    (ps : List (Nat × Value)) (hp : (parts.map fun (i, x) => (i, a.eval x)).toList = ps) (cells : Array Value) (hf : P.built t ps = some cells) (h : K (a.put o.dst (.agg cells))) : o.quiet P a C K :=
  ⟨.agg cells, fun w hw => by
    unfold Oper.quietAt execOp
    simp only [ho, Sem.run_bind, run_build w t _ _ (hp ▸ hf), Result.andThen_ok]
    trivial, h⟩
theorem acn_range {w : World} {b : Nat} {x : Acn} (h : w.heap[b]? = some (.cells x.cells.toArray 27 (0, 0))) : w.rangeAt b 0 x.cells := fun j v hv => by
  rw [cell_of_row w b (0 + j) _ _ (0, 0) h]
  simpa using hv

theorem flight_nil (w : World) (n : Int) (a : Acn) : Calls Try.prog 22 #[.pointer none, .int .i64 n, .agg a.cells.toArray] w fun e w' => e = .returned (.tuple #[.int .i64 0, .bool false]) ∧ Below w.heap.size w w' := by
  go_enter Try.func22, Try.ntmps22
  go_wp2_with fail
  go_ret2
  exact ⟨rfl, (Below.refl _ _).alloc (Nat.le_refl _) _⟩
def firstI (L : List Int) : Int := L.head?.getD 0
set_option maxRecDepth 100000 in
set_option maxHeartbeats 2000000 in
theorem flight_any (T : Nat → Prop) (w : World) (t : Nat) (keep next : Int) (lv ev : Value) (m fm : Nat) (sl : Fli → Value) (A D : List Int) (M : Int → Option Value) (fl : Fli → List Int) (h : OMem T w t keep next lv ev m fm sl A D M fl) (f : Fli) (L : List Int) (hL : fl f = L) :
    Calls Try.prog 22 #[.pointer (some ⟨t, 0, none⟩), .int .i64 f.ten, .agg f.a.cells.toArray] w fun e w' => e = .returned (.tuple #[.int .i64 (firstI L), .bool (decide (L ≠ []))]) ∧ Below w.heap.size w w' := by
  have hb : Below w.heap.size w (w.alloc (.cells f.a.cells.toArray 27)) := (Below.refl _ _).alloc (Nat.le_refl _) _
  have hn := heap_alloc_new w (.cells f.a.cells.toArray 27)
  obtain ⟨W1, hW1⟩ : ∃ W1, W1 = w.alloc (.cells f.a.cells.toArray 27) := ⟨_, rfl⟩
  rw [← hW1] at hb hn
  have HM1 := Lib.hid (h.below hb)
  have HN := Lib.hid hn
  have HB := Lib.hid hb
  obtain ⟨v0, hv0, hO0, -⟩ := own0 HM1.out f
  rw [hL] at hO0
  have HV0 := Lib.hid hv0
  have HO0 := Lib.hid hO0
  clear hL
  have c5 := HM1.out.box.get (i := 5) rfl
  have d0 := fun (z : Later W1) => z.cell c5
  have RT := Lib.hid (fun w' hx => later_range (acn_range HN.out) w' hx)
  obtain ⟨n1, hfl⟩ := HM1.out.fls
  have HFL := Lib.hid (fun (w' : World) (hx : ∃ x : Later W1, w' = x.w) => (show MapF fliK w' fm (fun f => if fl f = [] then none else some (sl f)) n1 from by obtain ⟨z, rfl⟩ := hx; exact (hfl.below z.h).toF))
  clear h hn hb hv0 hO0 c5 hfl
  go_enter Try.func22, Try.ntmps22
  go_upto_region 3 with fail
  show Code.wp _ _ _ _ (w.alloc (.cells f.a.cells.toArray 27))
  rw [← hW1]
  clear hW1
  refine wp_region_later (by kernel_rfl) (by kernel_rfl) (Below.refl _ _) ?_
  repeat (first
    | go_big_quiet_skip
    | (go_big_quiet_want; first
      | (refine quiet_load_mid 27 _ rfl w.heap.size 0 rfl f.a.cells _ RT.out Try.underlying27 rfl (acnRow f.a) ?_; simp only [Act.put, List.setIfInBounds_toArray, List.set_cons_succ, List.set_cons_zero]; go_big_quiet_on)
      | (refine quiet_buildS 65 _ rfl [(0, .int .i64 f.ten), (1, .agg f.a.cells.toArray)] (by kernel_rfl) f.cells.toArray (fli_built f) ?_; simp only [Act.put, List.setIfInBounds_toArray, List.set_cons_succ, List.set_cons_zero]; go_big_quiet_on)
      | (refine quiet_lookup fliOk _ _ 58 59 rfl Try.underlying58 (z := .slice none 0 0) (fun w => Try.zeroValue59 w) rfl HFL.out f rfl ?_; rw [← HV0.out]; simp only [Act.put, List.setIfInBounds_toArray, List.set_cons_succ, List.set_cons_zero]; go_big_quiet_on)
      | (go_big_quiet_op; go_big_quiet_on)))
  refine wpQuiet_nil ?_
  rintro ⟨W2, hb2⟩
  dsimp only
  have HO2 := Lib.hid (HO0.out.below hb2)
  obtain ⟨a2, c2, hf2⟩ := HO0.out.form
  subst hf2
  clear d0 RT HFL HV0
  cases L with
  | nil =>
    go_wp2_with fail
    go_ret2
    exact ⟨rfl, bthen' HB.out hb2⟩
  | cons x r =>
    obtain ⟨b, off, e, hr⟩ := (HO2.out.lts intOk).at (k := 0) rfl
    subst e
    have hc : W2.cell? ⟨b, off, none⟩ = some (.int .i64 x) := by have := int_cell hr; simpa using this
    have hlen : ((((x :: r).length : Nat) : Int) == 0) = false := by simp; omega
    clear hr
    go_wp2_with fail
    go_ret2
    exact ⟨rfl, bthen' HB.out hb2⟩

theorem next_nil (w : World) : Calls Try.prog 12 #[.pointer none] w fun e w' => e = .returned (.int .i64 0) ∧ w = w' := by
  go_enter Try.func12, Try.ntmps12
  go_wp2_with fail
  go_ret
  exact ⟨rfl, rfl⟩
theorem next_any (w : World) (t : Nat) (vs : List Value) (next : Int) (h : Cel w t vs) (h1 : vs[1]? = some (.int .i64 next)) : Calls Try.prog 12 #[.pointer (some ⟨t, 0, none⟩)] w fun e w' => e = .returned (.int .i64 next) ∧ w = w' := by
  have c1 := h.get h1
  clear h h1
  go_enter Try.func12, Try.ntmps12
  go_wp2_with fail
  go_ret
  exact ⟨rfl, rfl⟩

/-- A list of operations of its own is handed back. -/
def GivesO (w : World) (L : List OpV) (e : Ending) (w' : World) : Prop := ∃ v, e = .returned v ∧ Below w.heap.size w w' ∧ Owns opR w.heap.size w' v L
set_option maxRecDepth 100000 in
set_option maxHeartbeats 4000000 in
theorem all_any (T : Nat → Prop) (w : World) (t : Nat) (keep next : Int) (lv ev : Value) (m fm : Nat) (sl : Fli → Value) (A D : List Int) (M : Int → Option Value) (fl : Fli → List Int) (h : OMem T w t keep next lv ev m fm sl A D M fl) (v : Value) (X : List OpV) (hv : Reads intR w v (X.map OpV.id)) (hX : ∀ x ∈ X, M x.id = some (opR.val x)) (hbig : X.length ≤ 100000) :
    Calls Try.prog 25 #[.pointer (some ⟨t, 0, none⟩), v] w (GivesO w X) := by
  obtain ⟨av, cv, rfl⟩ := hv.form
  have hlX : (X.map OpV.id).length = X.length := by simp
  rw [hlX] at hv ⊢
  have HM := Lib.hid h
  have HV := Lib.hid hv
  have HX := Lib.hid hX
  have hO1 := Owns.nil opR w.heap.size w
  clear h hv hX
  go_enter Try.func25, Try.ntmps25
  go_wp2_with fail
  go_loopw [5, 7, 10] (fun u _ i wr => ∃ k : Nat, k ≤ X.length ∧ i = .int .i64 k ∧ Below w.heap.size w wr ∧ Owns opR w.heap.size wr u (X.take k)) (fun _ _ i _ => X.length - (intOf i).toNat)
  case atStart => exact ⟨0, by omega, rfl, Below.refl _ _, hO1⟩
  case round =>
    clear hO1
    obtain ⟨k, hk, rfl, hW, hO⟩ := hrel
    have HO := Lib.hid hO
    have hwr := hW.size
    obtain ⟨a5, c5, hf⟩ := hO.form
    have hlen : (X.take k).length = k := by rw [List.length_take]; omega
    rw [hlen] at hf
    subst hf
    clear hO
    by_cases hlt : k < X.length
    · obtain ⟨x, hx⟩ : ∃ x, X[k]? = some x := ⟨_, List.getElem?_eq_getElem hlt⟩
      have HM2 := Lib.hid (HM.out.below hW)
      obtain ⟨b, off, e, hr⟩ := (HV.out.below hW).at (k := k) (x := x.id) (by rw [List.getElem?_map, hx]; rfl)
      subst e
      have hc := int_cell hr
      have c4 := HM2.out.box.get (i := 4) rfl
      obtain ⟨n2, hop⟩ := HM2.out.ops
      have HOP := Lib.hid hop
      have hmx := Lib.hid (HX.out x (List.mem_of_getElem? hx))
      have T2 := Lib.hid (take_snoc hx)
      clear hr hop hx
      go_wp2_with (first
        | (refine wl_lookup (intK_ok Try.underlying3) rfl _ _ 57 30 rfl Try.underlying57 (z := opR.val zeroOp) (fun w => Try.zeroValue30 w) rfl HOP.out x.id rfl ?_; rw [hmx.out]; simp only [Option.getD_some])
        | (refine wl_build_rec opOk rfl _ rfl x rfl ?_; have hx5 := built_range (R := opR) (w := wr) x; have hb5 : Below wr.heap.size wr (wr.alloc (.cells (opR.val x).cells opR.ty)) := (Below.refl _ _).alloc (Nat.le_refl _) _; generalize wr.alloc (.cells (opR.val x).cells opR.ty) = W5 at hx5 hb5 ⊢; have hOo := HO.out.below hb5; have hszT := hb5.size)
        | (refine wl_append_rec opOk rfl _ _ rfl w.heap.size _ (X.take k) rfl hOo wr.heap.size 0 1 x rfl hx5 (by omega) (by omega) ?_; intro g6 cap W6 hO6 hg6 hat6; have hW6 := (bthen' hW hb5).grown hg6 (by omega) (fun k hk => (hOo.lt k hk).1)))
      rw [T2.out, hlen] at hO6
      go_roundw
      case rel => exact ⟨k + 1, by omega, by go_num, hW6, hO6⟩
      case measure => simp [intOf]; omega
    · obtain rfl : k = X.length := by omega
      have hO := HO.out
      rw [List.take_length] at hO
      have HO2 := Lib.hid hO
      clear HO hO
      go_wp2_with fail
      go_ret
      exact ⟨_, rfl, hW, HO2.out⟩
theorem live_nil (w : World) : Calls Try.prog 11 #[.pointer none] w fun e w' => e = .returned (.slice none 0 0) ∧ w = w' := by
  go_enter Try.func11, Try.ntmps11
  go_wp2_with fail
  go_ret
  exact ⟨rfl, rfl⟩
theorem ended_nil (w : World) : Calls Try.prog 10 #[.pointer none] w fun e w' => e = .returned (.slice none 0 0) ∧ w = w' := by
  go_enter Try.func10, Try.ntmps10
  go_wp2_with fail
  go_ret
  exact ⟨rfl, rfl⟩
theorem live_any (T : Nat → Prop) (w : World) (t : Nat) (keep next : Int) (lv ev : Value) (m fm : Nat) (sl : Fli → Value) (X D : List OpV) (M : Int → Option Value) (fl : Fli → List Int) (h : OMem T w t keep next lv ev m fm sl (X.map OpV.id) (D.map OpV.id) M fl) (hX : ∀ x ∈ X, M x.id = some (opR.val x)) (hbig : X.length ≤ 100000) :
    Calls Try.prog 11 #[.pointer (some ⟨t, 0, none⟩)] w (GivesO w X) := by
  obtain ⟨al, cl, hlv⟩ := h.live.form
  rw [List.length_map] at hlv
  subst hlv
  have KA := Lib.hid (all_any T w t keep next _ ev m fm sl _ _ M fl h _ X (h.live.lts intOk) hX hbig)
  have c2 := h.box.get (i := 2) rfl
  clear h
  go_enter Try.func11, Try.ntmps11
  go_wp2_with (go_at_call 25; refine KA.out.mono ?_; rintro e w' ⟨v, rfl, hb, hO⟩)
  obtain ⟨a3, c3, rfl⟩ := hO.form
  go_ret
  exact ⟨_, rfl, hb, hO⟩
theorem ended_any (T : Nat → Prop) (w : World) (t : Nat) (keep next : Int) (lv ev : Value) (m fm : Nat) (sl : Fli → Value) (X D : List OpV) (M : Int → Option Value) (fl : Fli → List Int) (h : OMem T w t keep next lv ev m fm sl (X.map OpV.id) (D.map OpV.id) M fl) (hX : ∀ x ∈ D, M x.id = some (opR.val x)) (hbig : D.length ≤ 100000) :
    Calls Try.prog 10 #[.pointer (some ⟨t, 0, none⟩)] w (GivesO w D) := by
  obtain ⟨al, cl, hlv⟩ := h.ends.form
  rw [List.length_map] at hlv
  subst hlv
  have KA := Lib.hid (all_any T w t keep next lv _ m fm sl _ _ M fl h _ D h.ends.lts hX hbig)
  have c3 := h.box.get (i := 3) rfl
  clear h
  go_enter Try.func10, Try.ntmps10
  go_wp2_with (go_at_call 25; refine KA.out.mono ?_; rintro e w' ⟨v, rfl, hb, hO⟩)
  obtain ⟨a3, c3, rfl⟩ := hO.form
  go_ret
  exact ⟨_, rfl, hb, hO⟩

/-! ### New -/
theorem new_none (w : World) (keep : Int) (h : keep < 1) : Calls Try.prog 7 #[.int .i64 keep] w fun e w' => e = .returned (.pointer none) ∧ w = w' := by
  go_enter Try.func7, Try.ntmps7
  go_wp2_with fail
  go_ret
  exact ⟨rfl, rfl⟩
set_option maxRecDepth 100000 in
theorem new_any (w : World) (keep : Int) (h : 1 ≤ keep) : Calls Try.prog 7 #[.int .i64 keep] w fun e w' => ∃ t, e = .returned (.pointer (some ⟨t, 0, none⟩)) ∧ Below w.heap.size w w' ∧ ∃ m fm, OMem (fun k => w.heap.size ≤ k ∧ k < w'.heap.size) w' t keep 1 (.slice none 0 0) (.slice none 0 0) m fm (fun _ => .slice none 0 0) [] [] (fun _ => none) (fun _ => []) := by
  have hmm := @run_makeMap Try.prog
  have hM := MapF.made (intK 3) w
  have hb1 : Below w.heap.size w (w.alloc (.map #[] 0)) := (Below.refl _ _).alloc (Nat.le_refl _) _
  have hs1 : (w.alloc (.map #[] 0)).heap.size = w.heap.size + 1 := by simp
  obtain ⟨W1, hW1⟩ : ∃ W1, W1 = w.alloc (.map #[] 0) := ⟨_, rfl⟩
  rw [← hW1] at hM hb1 hs1
  have hF := MapS.made fliK W1
  have hb2 : Below W1.heap.size W1 (W1.alloc (.map #[] 0)) := (Below.refl _ _).alloc (Nat.le_refl _) _
  have hs2 : (W1.alloc (.map #[] 0)).heap.size = W1.heap.size + 1 := by simp
  obtain ⟨W2, hW2⟩ : ∃ W2, W2 = W1.alloc (.map #[] 0) := ⟨_, rfl⟩
  rw [← hW2] at hF hb2 hs2
  have hT := Cel.new W2 61 [.int .i64 keep, .int .i64 1, .slice none 0 0, .slice none 0 0, .map (some w.heap.size), .map (some W1.heap.size)]
  have hb3 : Below W2.heap.size W2 (W2.alloc (.cells #[.int .i64 keep, .int .i64 1, .slice none 0 0, .slice none 0 0, .map (some w.heap.size), .map (some W1.heap.size)] 61)) := (Below.refl _ _).alloc (Nat.le_refl _) _
  have hs3 : (W2.alloc (.cells #[.int .i64 keep, .int .i64 1, .slice none 0 0, .slice none 0 0, .map (some w.heap.size), .map (some W1.heap.size)] 61)).heap.size = W2.heap.size + 1 := by simp
  have fin := Lib.hid (show Below w.heap.size w (W2.alloc (.cells #[.int .i64 keep, .int .i64 1, .slice none 0 0, .slice none 0 0, .map (some w.heap.size), .map (some W1.heap.size)] 61)) ∧ OMem (fun k => w.heap.size ≤ k ∧ k < (W2.alloc (.cells #[.int .i64 keep, .int .i64 1, .slice none 0 0, .slice none 0 0, .map (some w.heap.size), .map (some W1.heap.size)] 61)).heap.size) (W2.alloc (.cells #[.int .i64 keep, .int .i64 1, .slice none 0 0, .slice none 0 0, .map (some w.heap.size), .map (some W1.heap.size)] 61)) W2.heap.size keep 1 (.slice none 0 0) (.slice none 0 0) w.heap.size W1.heap.size (fun _ => .slice none 0 0) [] [] (fun _ => none) (fun _ => []) from by
    refine ⟨bthen' (bthen' hb1 hb2) hb3, hT, Owns.nil _ _ _, OwnQ.nil _ _, ⟨0, (hM.below hb2).below hb3⟩, ⟨0, (hF.below hb3).congr (fun k => by simp)⟩, fun f hf => absurd rfl hf, by omega, by omega, (fun k hk => by cases hk), (fun k hk => by cases hk), fun f hf => absurd rfl hf, fun f g _ hf => absurd rfl hf, by omega, fun k hk => hk.2⟩)
  clear hM hF hT hb1 hb2 hb3 hs1 hs2 hs3
  go_enter Try.func7, Try.ntmps7
  go_wp2_with fail
  go_ret
  subst hW2
  subst hW1
  exact ⟨_, rfl, by simpa using fin.out.1, _, _, by simpa using fin.out.2⟩
end Go.Proofs.Ytddmajgadaooaaa
