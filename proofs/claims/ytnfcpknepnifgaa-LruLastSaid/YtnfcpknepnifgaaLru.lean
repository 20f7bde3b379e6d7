/- The functions of a table that forgets, of numbers. -/
import Derived.Test.YtnfcpknepnifgaaLruTab
import Derived.Test.YtnfcpknepnifgaaStr
set_option linter.unusedVariables false
namespace Go.Proofs.Ytnfcpknepnifgaa
open Go.RowKit

abbrev TE : TypeId := 55
def vi (n : Int) : List Value := [.int .i64 n]
abbrev TabI := Tab TE vi

theorem keyAt : Try.prog.underlying 49 = some (.map 9 46) := by kernel_rfl
theorem strKey : (strK 9).Ok := strK_ok Try.underlying9
theorem zeroLink (w : World) : (zeroValue 46).run Try.prog w = .ok (.pointer none) w := by
  first | rfl | simp [zeroValue, run_underlying Try.underlying46]
theorem asserted (w : World) (v : Value) : (Instr.typeAssert (.iface TE v) 20 TE false).run Try.prog w = .ok v w := by kernel_rfl
theorem faced (w : World) (v : Option Addr) : (Instr.makeInterface TE (.pointer v)).run Try.prog w = .ok (.iface TE (.pointer v)) w := by kernel_rfl

theorem of_any (w : World) (g e : Nat) (a b : Value) (h : Cel w g [.iface TE (.pointer (some ⟨e, 0, none⟩)), a, b]) :
    Calls Try.prog 17 #[.pointer (some ⟨g, 0, none⟩)] w fun e' w' => e' = .returned (.pointer (some ⟨e, 0, none⟩)) ∧ w = w' := by
  have c0 := h.get (i := 0) rfl
  have ha := fun (w : World) (v : Value) => asserted w v
  clear h
  go_enter Try.func17, Try.ntmps17
  go_wp2_with fail
  go_ret
  exact ⟨rfl, rfl⟩

/-! ### Peek -/
theorem peek_nil (w : World) (k : ByteArray) : Calls Try.prog 10 #[.pointer none, .string k] w fun e w' => e = .returned (.tuple #[.int .i64 0, .bool false]) ∧ w = w' := by
  go_enter Try.func10, Try.ntmps10
  go_wp2_with fail
  go_ret2
  exact ⟨rfl, rfl⟩
theorem peek_yes (w : World) (B t : Nat) (room : Int) (c m : Nat) (E : List (Ent Int)) (h : TabI B w t room c m E) (i : Nat) (x : Ent Int) (hx : E[i]? = some x) :
    Calls Try.prog 10 #[.pointer (some ⟨t, 0, none⟩), .string x.key] w fun e w' => e = .returned (.tuple #[.int .i64 x.v, .bool true]) ∧ w = w' := by
  have c2 := h.box.get (i := 2) rfl
  have n1 := (h.ents x (List.mem_of_getElem? hx)).get (i := 1) rfl
  have KO := Lib.hid (of_any w x.g x.e _ _ (h.node hx))
  have hf := Lib.hid (mf_mem h.keys (List.mem_of_getElem? hx))
  have HM := Lib.hid h.map
  clear h hx
  go_enter Try.func10, Try.ntmps10
  go_wp2_with (first
    | (go_at_call 17; refine KO.out.mono ?_; rintro e w' ⟨rfl, rfl⟩)
    | (refine wl_lookupOk strKey rfl _ _ _ _ rfl keyAt zeroLink rfl HM.out x.key rfl ?_; rw [hf.out]; simp only [Option.getD_some, Option.isSome_some]))
  go_ret2
  exact ⟨rfl, rfl⟩
theorem peek_no (w : World) (B t : Nat) (room : Int) (c m : Nat) (E : List (Ent Int)) (h : TabI B w t room c m E) (k : ByteArray) (hk : ∀ x ∈ E, x.key ≠ k) :
    Calls Try.prog 10 #[.pointer (some ⟨t, 0, none⟩), .string k] w fun e w' => e = .returned (.tuple #[.int .i64 0, .bool false]) ∧ w = w' := by
  have c2 := h.box.get (i := 2) rfl
  have hf := Lib.hid (mf_none hk)
  have HM := Lib.hid h.map
  clear h hk
  go_enter Try.func10, Try.ntmps10
  go_wp2_with (refine wl_lookupOk strKey rfl _ _ _ _ rfl keyAt zeroLink rfl HM.out k rfl ?_; rw [hf.out]; simp only [Option.getD_none, Option.isSome_none])
  go_ret2
  exact ⟨rfl, rfl⟩

/-! ### Len -/
theorem len_nil (w : World) : Calls Try.prog 14 #[.pointer none] w fun e w' => e = .returned (.int .i64 0) ∧ w = w' := by
  go_enter Try.func14, Try.ntmps14
  go_wp2_with fail
  go_ret
  exact ⟨rfl, rfl⟩
theorem len_any (w : World) (B t : Nat) (room : Int) (c m : Nat) (E : List (Ent Int)) (h : TabI B w t room c m E) :
    Calls Try.prog 14 #[.pointer (some ⟨t, 0, none⟩)] w fun e w' => e = .returned (.int .i64 E.length) ∧ w = w' := by
  have c2 := h.box.get (i := 2) rfl
  obtain ⟨es, clock, hh, hsz⟩ := h.map.size
  have hl := fun ty => run_len_map (P := Try.prog) w 49 ty m es clock (by kernel_rfl) hh
  clear h
  go_enter Try.func14, Try.ntmps14
  go_wp2_with fail
  go_ret
  exact ⟨by rw [← hsz]; rfl, rfl⟩

/-! ### Drop -/
theorem wl_delete {κ : Type} [DecidableEq κ] {K : KeyK κ} (k0 : K.Ok) {ops : Array Oper} {rest : List Oper} {o : Oper} {a : Act} {w : World} {Q : Exit → Act → World → Prop} (hgd : o.guard = none) (m x : Operand) (t e kt : TypeId)
    (ho : o.op = .call { callee := .builtin .delete, args := #[m, x], argTypes := #[t, kt] })
    (ht : Try.prog.underlying t = some (.map K.ty e)) {b n : Nat} {f : κ → Option Value} (hm : a.eval m = .map (some b)) (h : MapF K w b f n) (k : κ) (hx : a.eval x = K.kv k)
    (hK : ∀ w', Upd [b] w w' → MapF K w' b (fun x => if x = k then none else f x) (if (f k).isSome then n - 1 else n) → wpList Try.prog ops Q rest (a.put o.dst (.tuple #[])) w') : wpList Try.prog ops Q (o :: rest) a w := by
  refine wpList_plain hgd fun K' hK' => ?_
  obtain ⟨w', hr, h1, h2⟩ := h.delete (tys := #[t, kt]) (ty := o.type) k0 rfl ht k
  unfold Oper.wp execOp
  simp only [ho, resolve, invoke, builtin, Sem.run_bind, Sem.run_pure, Result.andThen_ok, List.map_toArray, List.map_cons, List.map_nil, hm, hx, hr]
  exact hK' _ _ (hK w' h1 h2)
theorem drop_nil (w : World) (k : ByteArray) : Calls Try.prog 16 #[.pointer none, .string k] w fun e w' => e = .returned (.bool false) ∧ w = w' := by
  go_enter Try.func16, Try.ntmps16
  go_wp2_with fail
  go_ret
  exact ⟨rfl, rfl⟩
theorem drop_no (w : World) (B t : Nat) (room : Int) (c m : Nat) (E : List (Ent Int)) (h : TabI B w t room c m E) (k : ByteArray) (hk : ∀ x ∈ E, x.key ≠ k) :
    Calls Try.prog 16 #[.pointer (some ⟨t, 0, none⟩), .string k] w fun e w' => e = .returned (.bool false) ∧ w = w' := by
  have c2 := h.box.get (i := 2) rfl
  have hf := Lib.hid (mf_none hk)
  have HM := Lib.hid h.map
  clear h hk
  go_enter Try.func16, Try.ntmps16
  go_wp2_with (refine wl_lookupOk strKey rfl _ _ _ _ rfl keyAt zeroLink rfl HM.out k rfl ?_; rw [hf.out]; simp only [Option.getD_none, Option.isSome_none])
  go_ret
  exact ⟨rfl, rfl⟩
theorem drop_yes (w : World) (B t : Nat) (room : Int) (c m : Nat) (E : List (Ent Int)) (h : TabI B w t room c m E) (i : Nat) (x : Ent Int) (hx : E[i]? = some x) :
    Calls Try.prog 16 #[.pointer (some ⟨t, 0, none⟩), .string x.key] w fun e w' => e = .returned (.bool true) ∧ Upd (tF TE t c m E) w w' ∧ TabI B w' t room c m (E.eraseIdx i) := by
  have c1 := h.box.get (i := 1) rfl
  have c2 := h.box.get (i := 2) rfl
  have hf := Lib.hid (mf_mem h.keys (List.mem_of_getElem? hx))
  have KD := Lib.hid (chainDrop_any w c (lks TE E) h.ch i x.g _ (h.at_lk hx))
  have HT := Lib.hid h
  have HX := Lib.hid hx
  have hes : lks TE (E.eraseIdx i) = (lks TE E).eraseIdx i := by
    unfold lks
    rw [List.eraseIdx_eq_take_drop_succ, List.eraseIdx_eq_take_drop_succ, List.map_append, List.map_take, List.map_drop]
  have HES := Lib.hid hes
  clear h hx hes
  go_enter Try.func16, Try.ntmps16
  go_upto_region 6 with (first
    | (go_at_call 27; refine KD.out.mono ?_; rintro e W2 ⟨rfl, hu2, hq2, -⟩)
    | (refine wl_lookupOk strKey rfl _ _ _ _ rfl keyAt zeroLink rfl HT.out.map x.key rfl ?_; rw [hf.out]; simp only [Option.getD_some, Option.isSome_some]))
  obtain ⟨p1, p2, -, p4, -⟩ := HT.out.parts
  have c22 := (HT.out.box.upd hu2 p2).get (i := 2) rfl
  have HM2 := Lib.hid (HT.out.map.upd hu2 p4)
  have HI := Lib.hid (show (if (mf E x.key).isSome = true then E.length - 1 else E.length) = E.length - 1 from by rw [hf.out]; rfl)
  clear c1 c2 p1 p2 p4
  go_wp2_with (refine wl_delete strKey rfl _ _ _ _ _ rfl keyAt rfl HM2.out x.key rfl ?_; intro W5 hu5 hm5; rw [HI.out] at hm5; simp only [Act.put])
  go_ret
  refine ⟨rfl, (hu2.mono (fun b hb => HT.out.inC hb)).trans (hu5.mono (by simp [tF])), ?_⟩
  exact HT.out.erase HX.out hu2 (by rw [HES.out]; exact hq2) hu5 hm5

end Go.Proofs.Ytnfcpknepnifgaa
