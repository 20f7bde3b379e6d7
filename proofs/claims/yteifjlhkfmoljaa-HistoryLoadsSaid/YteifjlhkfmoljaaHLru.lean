/- The functions of a table that forgets, of histograms. (First printed out of XLru.) -/
import Derived.Test.YteifjlhkfmoljaaLruTab
import Derived.Test.YteifjlhkfmoljaaCel
import Derived.Test.YteifjlhkfmoljaaStrR
import Derived.Test.YteifjlhkfmoljaaHistAts
set_option linter.unusedVariables false
namespace Go.Proofs.Yteifjlhkfmoljaa
open Go.RowKit

abbrev TE : TypeId := 78
/-- Histograms. -/
abbrev Hs := { h : List Int // h.length = 16 }
def noH : Hs := ⟨zeros, rfl⟩
def vh (h : Hs) : List Value := h.1.map (.int .i64)
theorem vh_length (h : Hs) : (vh h).length = 16 := by simp [vh, h.2]
theorem vhRow (h : Hs) : (Try.prog.info? 49).map (·.size) = some (vh h).length := by rw [vh_length]; exact histI
theorem vhRow' (h : Hs) : (Try.prog.info? 49).map (·.size) = some (vh h).toArray.size := by rw [List.size_toArray]; exact vhRow h
theorem vhOne (h : Hs) : (vh h).toArray.all (·.oneCell') = true := hcells_one h.1
def hV (h : Hs) : Value := .agg (vh h).toArray
theorem results_h_tmp {P : Program} {fn : Func} {p q : Tmp} {ty : TypeId} (h : fn.results = #[.cell p ty, .tmp q]) (tmps : Array Value) (w : World) (g : Nat) (cs : List Value) (d : TypeDesc)
    (hp : tmps.getD p undef = .pointer (some ⟨g, 0, none⟩)) (hg : w.rangeAt g 0 cs) (hu : P.underlying ty = some d) (hd : d.isRow = true) (hi : (P.info? ty).map (·.size) = some cs.length) :
    (results fn tmps).run P w = .ok (.tuple #[.agg cs.toArray, tmps.getD q undef]) w := by
  have hp' : tmps[p]?.getD undef = .pointer (some ⟨g, 0, none⟩) := by simpa using hp
  simp [results, h, hp', asAddr, run_loadVar_mid w g 0 ty cs d hg hu hd hi]
theorem row_range {w : World} {g : Nat} {h : Hs} {t : TypeId} (hg : w.heap[g]? = some (.cells (vh h).toArray t (0, 0))) : w.rangeAt g 0 (vh h) := fun j v hv => by
  rw [cell_of_row w g (0 + j) _ t (0, 0) hg]
  simpa using hv

abbrev TabH := Tab TE vh

theorem keyAt : Try.prog.underlying 72 = some (.map 9 69) := by kernel_rfl
theorem strKey : (strK 9).Ok := strK_ok Try.underlying9
theorem zeroLink (w : World) : (zeroValue 69).run Try.prog w = .ok (.pointer none) w := by
  first | rfl | simp [zeroValue, run_underlying Try.underlying69]
theorem asserted (w : World) (v : Value) : (Instr.typeAssert (.iface TE v) 20 TE false).run Try.prog w = .ok v w := by kernel_rfl
theorem faced (w : World) (v : Option Addr) : (Instr.makeInterface TE (.pointer v)).run Try.prog w = .ok (.iface TE (.pointer v)) w := by kernel_rfl

theorem of_any (w : World) (g e : Nat) (a b : Value) (h : Cel w g [.iface TE (.pointer (some ⟨e, 0, none⟩)), a, b]) :
    Calls Try.prog 33 #[.pointer (some ⟨g, 0, none⟩)] w fun e' w' => e' = .returned (.pointer (some ⟨e, 0, none⟩)) ∧ w = w' := by
  have c0 := h.get (i := 0) rfl
  have ha := fun (w : World) (v : Value) => asserted w v
  clear h
  go_enter Try.func33, Try.ntmps33
  go_wp2_with fail
  go_ret
  exact ⟨rfl, rfl⟩

/-! ### Peek -/
theorem peek_nil (w : World) (k : ByteArray) : Calls Try.prog 29 #[.pointer none, .string k] w fun e w' => e = .returned (.tuple #[hV noH, .bool false]) ∧ Below w.heap.size w w' := by
  go_enter Try.func29, Try.ntmps29
  go_upto_region 2 with fail
  show Code.wp _ _ _ _ ((w.alloc (.cells (vh noH).toArray 49)).alloc (.cells (vh noH).toArray 49))
  obtain ⟨hn0, hn1, hb2, -⟩ := two_boxes (Below.refl _ ((w.alloc (.cells (vh noH).toArray 49)).alloc (.cells (vh noH).toArray 49)))
  generalize (w.alloc (.cells (vh noH).toArray 49)).alloc (.cells (vh noH).toArray 49) = W2 at hn0 hn1 hb2 ⊢
  go_wp2_with (first
    | (refine wpList_load_row rfl 49 _ rfl (w.heap.size + 1) rfl 49 (vh noH).toArray (0, 0) _ hn1 histU rfl (vhRow' noH) ?_)
    | (refine wpList_store_row rfl 49 _ _ rfl w.heap.size (vh noH).toArray rfl rfl 49 (vh noH).toArray hn0 (vhRow' noH) (by simp only [List.size_toArray, vh_length]) (vhOne noH) ?_))
  refine bodyPost_ret (results_h_tmp rfl _ _ w.heap.size (vh noH) _ rfl (row_range (setRow_heap _ _ _ _ _ _ hn0)) histU rfl (vhRow noH)) rfl ⟨rfl, below_row hb2 (Nat.le_refl _) _⟩
theorem peek_yes (w : World) (B t : Nat) (room : Int) (c m : Nat) (E : List (Ent Hs)) (h : TabH B w t room c m E) (i : Nat) (x : Ent Hs) (hx : E[i]? = some x) : Calls Try.prog 29 #[.pointer (some ⟨t, 0, none⟩), .string x.key] w fun e w' => e = .returned (.tuple #[hV x.v, .bool true]) ∧ Below w.heap.size w w' := by
  have HT := Lib.hid h
  have HX := Lib.hid hx
  have hf := Lib.hid (mf_mem h.keys (List.mem_of_getElem? hx))
  clear h hx
  go_enter Try.func29, Try.ntmps29
  go_upto_region 2 with fail
  show Code.wp _ _ _ _ ((w.alloc (.cells (vh noH).toArray 49)).alloc (.cells (vh noH).toArray 49))
  obtain ⟨hn0, hn1, hb2, -⟩ := two_boxes (Below.refl _ ((w.alloc (.cells (vh noH).toArray 49)).alloc (.cells (vh noH).toArray 49)))
  generalize (w.alloc (.cells (vh noH).toArray 49)).alloc (.cells (vh noH).toArray 49) = W2 at hn0 hn1 hb2 ⊢
  have HT2 := Lib.hid (HT.out.below hb2)
  have c2 := HT2.out.box.get (i := 2) rfl
  have RE : Hid (W2.rangeAt x.e 1 (vh x.v)) := Lib.hid (fun j v hv => by
    rw [Nat.add_comm]
    exact (HT2.out.ents x (List.mem_of_getElem? HX.out)).get (i := j + 1) (by simpa using hv))
  have KO := Lib.hid (of_any W2 x.g x.e _ _ (HT2.out.node HX.out))
  have HM := Lib.hid HT2.out.map
  go_wp2_with (first
    | (go_at_call 33; refine KO.out.mono ?_; rintro e w' ⟨rfl, rfl⟩)
    | (refine wl_lookupOk strKey rfl _ _ _ _ rfl keyAt zeroLink rfl HM.out x.key rfl ?_; rw [hf.out]; simp only [Option.getD_some, Option.isSome_some])
    | (refine wpList_load_mid rfl 49 _ rfl x.e 1 rfl (vh x.v) _ RE.out histU rfl (vhRow x.v) ?_)
    | (refine wpList_store_row rfl 49 _ _ rfl w.heap.size (vh x.v).toArray rfl rfl 49 (vh noH).toArray hn0 (vhRow' x.v) (by simp only [List.size_toArray, vh_length]) (vhOne x.v) ?_))
  refine bodyPost_ret (results_h_tmp rfl _ _ w.heap.size (vh x.v) _ rfl (row_range (setRow_heap _ _ _ _ _ _ hn0)) histU rfl (vhRow x.v)) rfl ⟨rfl, below_row hb2 (Nat.le_refl _) _⟩
theorem peek_no (w : World) (B t : Nat) (room : Int) (c m : Nat) (E : List (Ent Hs)) (h : TabH B w t room c m E) (k : ByteArray) (hk : ∀ x ∈ E, x.key ≠ k) : Calls Try.prog 29 #[.pointer (some ⟨t, 0, none⟩), .string k] w fun e w' => e = .returned (.tuple #[hV noH, .bool false]) ∧ Below w.heap.size w w' := by
  have HT := Lib.hid h
  have hf := Lib.hid (mf_none hk)
  clear h hk
  go_enter Try.func29, Try.ntmps29
  go_upto_region 2 with fail
  show Code.wp _ _ _ _ ((w.alloc (.cells (vh noH).toArray 49)).alloc (.cells (vh noH).toArray 49))
  obtain ⟨hn0, hn1, hb2, -⟩ := two_boxes (Below.refl _ ((w.alloc (.cells (vh noH).toArray 49)).alloc (.cells (vh noH).toArray 49)))
  generalize (w.alloc (.cells (vh noH).toArray 49)).alloc (.cells (vh noH).toArray 49) = W2 at hn0 hn1 hb2 ⊢
  have HT2 := Lib.hid (HT.out.below hb2)
  have c2 := HT2.out.box.get (i := 2) rfl
  have HM := Lib.hid HT2.out.map
  go_wp2_with (first
    | (refine wl_lookupOk strKey rfl _ _ _ _ rfl keyAt zeroLink rfl HM.out k rfl ?_; rw [hf.out]; simp only [Option.getD_none, Option.isSome_none])
    | (refine wpList_load_row rfl 49 _ rfl (w.heap.size + 1) rfl 49 (vh noH).toArray (0, 0) _ hn1 histU rfl (vhRow' noH) ?_)
    | (refine wpList_store_row rfl 49 _ _ rfl w.heap.size (vh noH).toArray rfl rfl 49 (vh noH).toArray hn0 (vhRow' noH) (by simp only [List.size_toArray, vh_length]) (vhOne noH) ?_))
  refine bodyPost_ret (results_h_tmp rfl _ _ w.heap.size (vh noH) _ rfl (row_range (setRow_heap _ _ _ _ _ _ hn0)) histU rfl (vhRow noH)) rfl ⟨rfl, below_row hb2 (Nat.le_refl _) _⟩

/-! ### Drop -/
theorem wl_delete {κ : Type} [DecidableEq κ] {K : KeyK κ} (k0 : K.Ok) {ops : Array Oper} {rest : List Oper} {o : Oper} {a : Act} {w : World} {Q : Exit → Act → World → Prop} (hgd : o.guard = none) (m x : Operand) (t e kt : TypeId)
    (ho : o.op = .call { callee := .builtin .delete, args := #[m, x], argTypes := #[t, kt] })
    (ht : Try.prog.underlying t = some (.map K.ty e)) {b n : Nat} {f : κ → Option Value} (hm : a.eval m = .map (some b)) (h : MapF K w b f n) (k : κ) (hx : a.eval x = K.kv k)
    (hK : ∀ w', Upd [b] w w' → MapF K w' b (fun x => if x = k then none else f x) (if (f k).isSome then n - 1 else n) → wpList Try.prog ops Q rest (a.put o.dst (.tuple #[])) w') : wpList Try.prog ops Q (o :: rest) a w := by
  refine wpList_plain hgd fun K' hK' => ?_
  obtain ⟨w', hr, h1, h2⟩ := h.delete (tys := #[t, kt]) (ty := o.type) k0 rfl ht k
  unfold Oper.wp execOp
  simp only [ho, resolve, invoke, builtin, Sem.run_bind, Sem.run_pure, Result.andThen_ok, List.map_toArray, List.map_cons, List.map_nil, hm, hx, hr]
  exact hK' _ _ (hK w' h1 h2)
theorem drop_nil (w : World) (k : ByteArray) : Calls Try.prog 37 #[.pointer none, .string k] w fun e w' => e = .returned (.bool false) ∧ w = w' := by
  go_enter Try.func37, Try.ntmps37
  go_wp2_with fail
  go_ret
  exact ⟨rfl, rfl⟩
theorem drop_no (w : World) (B t : Nat) (room : Int) (c m : Nat) (E : List (Ent Hs)) (h : TabH B w t room c m E) (k : ByteArray) (hk : ∀ x ∈ E, x.key ≠ k) :
    Calls Try.prog 37 #[.pointer (some ⟨t, 0, none⟩), .string k] w fun e w' => e = .returned (.bool false) ∧ w = w' := by
  have c2 := h.box.get (i := 2) rfl
  have hf := Lib.hid (mf_none hk)
  have HM := Lib.hid h.map
  clear h hk
  go_enter Try.func37, Try.ntmps37
  go_wp2_with (refine wl_lookupOk strKey rfl _ _ _ _ rfl keyAt zeroLink rfl HM.out k rfl ?_; rw [hf.out]; simp only [Option.getD_none, Option.isSome_none])
  go_ret
  exact ⟨rfl, rfl⟩
set_option maxRecDepth 100000 in
set_option maxHeartbeats 1000000 in
theorem drop_yes (w : World) (B t : Nat) (room : Int) (c m : Nat) (E : List (Ent Hs)) (h : TabH B w t room c m E) (i : Nat) (x : Ent Hs) (hx : E[i]? = some x) :
    Calls Try.prog 37 #[.pointer (some ⟨t, 0, none⟩), .string x.key] w fun e w' => e = .returned (.bool true) ∧ Upd (tF TE t c m E) w w' ∧ TabH B w' t room c m (E.eraseIdx i) := by
  have c1 := h.box.get (i := 1) rfl
  have c2 := h.box.get (i := 2) rfl
  have hf := Lib.hid (mf_mem h.keys (List.mem_of_getElem? hx))
  have KD := Lib.hid (chainDrop_any w c (lks TE E) h.ch i x.g _ (h.at_lk hx))
  have HT := Lib.hid h
  have HX := Lib.hid hx
  have hes : lks TE (E.eraseIdx i) = (lks TE E).eraseIdx i := by
    unfold lks
    rw [List.eraseIdx_eq_take_drop_succ, List.eraseIdx_eq_take_drop_succ, List.map_append, List.map_take, List.map_drop]
  have HES := Lib.hid hes
  clear h hx hes
  go_enter Try.func37, Try.ntmps37
  go_upto_region 6 with (first
    | (go_at_call 47; refine KD.out.mono ?_; rintro e W2 ⟨rfl, hu2, hq2, -⟩)
    | (refine wl_lookupOk strKey rfl _ _ _ _ rfl keyAt zeroLink rfl HT.out.map x.key rfl ?_; rw [hf.out]; simp only [Option.getD_some, Option.isSome_some]))
  obtain ⟨p1, p2, -, p4, -⟩ := HT.out.parts
  have c22 := (HT.out.box.upd hu2 p2).get (i := 2) rfl
  have HM2 := Lib.hid (HT.out.map.upd hu2 p4)
  have HI := Lib.hid (show (if (mf E x.key).isSome = true then E.length - 1 else E.length) = E.length - 1 from by rw [hf.out]; rfl)
  clear c1 c2 p1 p2 p4
  go_wp2_with (refine wl_delete strKey rfl _ _ _ _ _ rfl keyAt rfl HM2.out x.key rfl ?_; intro W5 hu5 hm5; rw [HI.out] at hm5; simp only [Act.put])
  go_ret
  refine ⟨rfl, (hu2.mono (fun b hb => HT.out.inC hb)).trans (hu5.mono (by simp [tF])), ?_⟩
  exact HT.out.erase HX.out hu2 (by rw [HES.out]; exact hq2) hu5 hm5

end Go.Proofs.Yteifjlhkfmoljaa
