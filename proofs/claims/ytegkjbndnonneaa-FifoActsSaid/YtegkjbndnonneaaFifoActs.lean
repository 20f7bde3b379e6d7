/- Calls of a queue that came in; the walk of the statement on calls. -/
import Derived.Test.YtegkjbndnonneaaFifoNil
import Derived.Test.YtegkjbndnonneaaMix
set_option linter.unusedVariables false
namespace Go.Proofs.Ytegkjbndnonneaa
open Go.ChangeShapes Go.WideShapes Go.ChangeAt Go.RowKit Go.Deep

/-- A call of a queue. -/
structure Ac where
  kind : Int
  id : Int
  cost : Int
def acR : Rec Ac := ⟨28, 22, 3, 24, fun a => .agg #[.int .i64 a.kind, .int .i64 a.id, .int .i64 a.cost], ⟨0, 0, 0⟩⟩
theorem acOk : acR.Ok where
  pos := by decide
  small := by decide
  bsmall := by decide
  len := fun _ => rfl
  one := by
    intro x v hv
    simp [Rec.cells, acR, Value.cells] at hv
    rcases hv with rfl | rfl | rfl <;> rfl
  slice := Try.underlying22
  info := ⟨_, rfl, rfl, rfl, rfl⟩
  fill := by
    intro y
    rw [show ((Array.range (1 * acR.n)).map (fun x => (acR.val acR.zero).cells[x % (acR.val acR.zero).cells.size]!)) = #[.int .i64 0, .int .i64 0, .int .i64 0] from by apply Array.toList_inj.1; rw [Array.toList_map, Array.toList_range]; rfl]
    simp [Instr.fill, Value.cells, acR]

theorem cellsI : Try.prog.cellsOf 3 = 1 := by kernel_rfl
theorem cellsA : Try.prog.cellsOf 28 = 3 := by kernel_rfl
theorem ac_cells {H : Type} {enc : TypeId × Value → H} {W : World} {base fuel : Nat} {spare : Nat → Bool} {held : Bool} {cs : List Value} {x : DataW H × List MemPlace} (hl : cs.length = 3)
    (h : DataW.trod enc Try.prog W base spare held fuel 28 cs = some x) : ∃ y : Ac, cs = acR.cells y := by
  obtain ⟨ys, m, _, rfl, _, hl2, hf⟩ := DataW.trod_struct Try.underlying28 h
  match cs, hl with
  | [a, b, c], _ =>
  match ys, hl2 with
  | [y0, y1, y2], _ =>
  have hy0 := hf 0 _ rfl
  have hy1 := hf 1 _ rfl
  have hy2 := hf 2 _ rfl
  simp [cellsI] at hy0 hy1 hy2
  obtain ⟨A, eA, -, -⟩ := DataW.trod_int Try.underlying3 hy0
  obtain ⟨E, eE, -, -⟩ := DataW.trod_int Try.underlying3 hy1
  obtain ⟨D, eD, -, -⟩ := DataW.trod_int Try.underlying3 hy2
  simp at eA eE eD
  exact ⟨⟨A, E, D⟩, by rw [eA, eE, eD]; rfl⟩
theorem openActs {H : Type} {enc : TypeId × Value → H} {W : World} {b0 base : Nat} {r : Reach} {spare : Nat → Bool} {held : Bool} {v : Value} {d : DataW H} {p : List MemPlace}
    (hv : Value.okWide Try.prog W r b0 22 v) (h : DataW.Trod enc Try.prog W base spare held 22 v d p) : ∃ L : List Ac, Reads acR W v L :=
  openRecs acOk cellsA (fun hl h => ac_cells hl h) hv h
theorem ac_parts {w : World} {b o : Nat} {a : Ac} (h : w.rangeAt b o (acR.cells a)) : w.cell? ⟨b, o, none⟩ = some (.int .i64 a.kind) ∧ w.cell? ⟨b, o + 1, none⟩ = some (.int .i64 a.id) ∧ w.cell? ⟨b, o + 2, none⟩ = some (.int .i64 a.cost) :=
  ⟨by simpa using h 0 _ rfl, by simpa using h 1 _ rfl, by simpa using h 2 _ rfl⟩

set_option maxRecDepth 100000 in
set_option maxHeartbeats 1000000 in
theorem fifoActs_far (w : World) (v : Value) (A : List Ac) (hv : Reads acR w v A) (h : 200 < A.length) :
    Calls Try.prog 3 #[v] w fun e w' => e = .returned (.bool true) ∧ Below w.heap.size w w' := by
  obtain ⟨av, capv, rfl⟩ := hv.form
  go_enter Try.func3, Try.ntmps3
  go_wp2_with (go_at_call 5; refine (live14_any _).mono ?_; rintro e w1 ⟨rfl, hb1⟩)
  go_ret
  exact ⟨rfl, hb1⟩

theorem Owns.outF {α : Type} {R : Rec α} (k : R.Ok) {B : Nat} {w : World} {v : Value} {L : List α} (h : Owns R B w v L) (F : List Nat) (hF : ∀ g, v.ownBlock = some g → g ∉ F) : ReadsOut R F w v L := by
  rcases h.nilOf with ⟨rfl, rfl⟩ | ⟨g, cap, rfl, hg, hgl⟩
  · exact .inl ⟨rfl, none, 0, rfl⟩
  · rcases h.lts k with ⟨h0, a, c, e⟩ | ⟨b, off, c, e, hr⟩
    · exact .inl ⟨h0, a, c, by rw [← e]⟩
    · have e2 := e
      simp only [Value.slice.injEq] at e2
      obtain ⟨e3, _, _⟩ := e2
      have e4 : g = b := by simpa using congrArg (fun (o : Option Addr) => o.map (·.block)) e3
      subst e4
      exact .inr ⟨g, off, c, e, hF g rfl, hr⟩
theorem Owns.capOk {α : Type} {R : Rec α} {B : Nat} {w : World} {v : Value} {L : List α} (h : Owns R B w v L) : ∃ a cap, v = .slice a L.length cap ∧ L.length ≤ cap := by
  rcases h.2 with ⟨rfl, h0⟩ | ⟨g, cap, cur, rfl, hb, hg, hn, _⟩
  · exact ⟨none, 0, by rw [h0], by omega⟩
  · exact ⟨_, cap, rfl, hn⟩

theorem Owns.formS {α : Type} {R : Rec α} {B : Nat} {w : World} {v : Value} {L : List α} {x : α} (h : Owns R B w v (L ++ [x])) : ∃ a cap, v = .slice a (L.length + 1) cap := by
  obtain ⟨a, cap, e⟩ := h.form
  exact ⟨a, cap, by rw [e]; simp⟩
theorem ReadsOut.sub {α : Type} {R : Rec α} {F F' : List Nat} {w : World} {v : Value} {L : List α} (h : ReadsOut R F w v L) (hF : ∀ i ∈ F', i ∈ F) : ReadsOut R F' w v L := by
  rcases h with h | ⟨b, off, cap, hv, hb, hr⟩
  · exact .inl h
  · exact .inr ⟨b, off, cap, hv, fun hin => hb (hF b hin), hr⟩
theorem dropv_none {id : Int} {L : List It} (h : ∀ y ∈ L, y.id ≠ id) : dropv id L = L := by
  unfold dropv
  rw [List.filter_eq_self]
  intro y hy
  simp [keepB, h y hy]
theorem dropv_erase {id : Int} : ∀ {L : List It} {i : Nat} {x : It}, (L.map It.id).Nodup → L[i]? = some x → x.id = id → dropv id L = L.eraseIdx i
  | [], i, x, _, h, _ => by simp at h
  | y :: r, 0, x, hn, h, e => by
    simp at h
    subst h
    rw [List.map_cons, List.nodup_cons] at hn
    have h2 : dropv id r = r := dropv_none (fun z hz e2 => hn.1 (by rw [e, ← e2]; exact List.mem_map.2 ⟨z, hz, rfl⟩))
    show (y :: r).filter (keepB id) = r
    rw [List.filter_cons_of_neg (by simp [keepB, e])]
    exact h2
  | y :: r, i + 1, x, hn, h, e => by
    rw [List.map_cons, List.nodup_cons] at hn
    simp at h
    have h2 := dropv_erase hn.2 h e
    show (y :: r).filter (keepB id) = y :: r.eraseIdx i
    rw [List.filter_cons_of_pos, show r.filter (keepB id) = r.eraseIdx i from h2]
    simp only [keepB, bne_iff_ne]
    intro e2
    exact hn.1 (by rw [e2, ← e]; exact List.mem_map.2 ⟨x, List.mem_of_getElem? h, rfl⟩)

/-- What stands at a round's head: a queue, and a list that reads as it. -/
def Stands (w wr : World) (p m : Nat) (u : Value) (G : List Lk) : Prop :=
  Below w.heap.size w wr ∧ Qu w.heap.size wr p m G ∧ ReadsOut itR (qF p m G) wr u (its G) ∧ ∃ a cap, u = .slice a G.length cap ∧ G.length ≤ cap
theorem Stands.below {w wr w' : World} {p m : Nat} {u : Value} {G : List Lk} (h : Stands w wr p m u G) (hb : Below wr.heap.size wr w') : Stands w w' p m u G :=
  ⟨bthen' h.1 hb, h.2.1.below hb, h.2.2.1.upd (Upd.ofBelow _ hb), h.2.2.2⟩
/-- .. and behind a call. -/
def Turned (w : World) (p m k b : Nat) (a : Ac) (u : Value) (wr : World) : Prop := ∃ G, G.length ≤ k ∧ Stands w wr p m u G ∧ wr.rangeAt b 0 (acR.cells a)

/-- The queue and the list of the document, behind a push that is let. -/
theorem push_turned {w W3 W4 W5 : World} {p m k b g : Nat} {a : Ac} {G : List Lk} {v4 : Value} (hG : G.length < k) (hW3 : Below w.heap.size w W3) (hQ4 : Qu w.heap.size W4 p m G) (hlow : ∀ i ∈ qF p m G, i < W3.heap.size) (hb4 : Below W3.heap.size W3 W4)
    (hO4 : Owns itR W3.heap.size W4 v4 (its G ++ [⟨a.id, a.cost⟩])) (hg : W4.heap.size ≤ g) (hU : Upd (qF p m G) W4 W5) (hQ5 : Qu w.heap.size W5 p m (G ++ [(g, ⟨a.id, a.cost⟩)])) (hr : W3.rangeAt b 0 (acR.cells a)) (hb : b ∉ qF p m G) : Turned w p m k b a v4 W5 := by
  have hi : its (G ++ [(g, ⟨a.id, a.cost⟩)]) = its G ++ [⟨a.id, a.cost⟩] := by simp [its]
  have hlt := hO4.lt
  have hO5 := hO4.upd hU (fun i hi2 hin => by have := (hlt i hi2).1; have := hlow i hin; omega)
  refine ⟨_, by simp; omega, ⟨hU.toBelow (bthen' hW3 hb4) (bthen' hW3 hb4).size (fun i hi => (hQ4.low i hi).1), hQ5, ?_, ?_⟩, hU.range hb (below_range hb4 hr)⟩
  · rw [hi]
    refine hO5.outF itOk _ (fun i hi2 hin => ?_)
    have h1 := hlt i hi2
    have hq : qF p m (G ++ [(g, ⟨a.id, a.cost⟩)]) = qF p m G ++ [g] := by simp [qF, blocks]
    rw [hq, List.mem_append] at hin
    rcases hin with hin | hin
    · have := hlow i hin; omega
    · simp at hin; omega
  · obtain ⟨aa, cap, e, hc⟩ := hO5.capOk
    refine ⟨aa, cap, ?_, ?_⟩
    · rw [e, ← hi, its_length]
    · rw [← hi, its_length] at hc; exact hc
/-- .. behind one that is taken from among them. -/
theorem drop_turned {w W4 W5 : World} {p m k b : Nat} {a : Ac} {G' : List Lk} {v5 : Value} (hG : G'.length ≤ k) (hW3 : Below w.heap.size w W4) (hQ5 : Qu w.heap.size W4 p m G') (hb5 : Below W4.heap.size W4 W5) (hO5 : Owns itR W4.heap.size W5 v5 (its G'))
    (hr : W4.rangeAt b 0 (acR.cells a)) : Turned w p m k b a v5 W5 := by
  refine ⟨G', hG, ⟨bthen' hW3 hb5, hQ5.below hb5, hO5.outF itOk _ (fun i hi hin => ?_), ?_⟩, below_range hb5 hr⟩
  · have h1 := (hO5.lt i hi).1
    have := (hQ5.low i hin).2
    omega
  · obtain ⟨aa, cap, e, hc⟩ := hO5.capOk
    rw [its_length] at e hc
    exact ⟨aa, cap, e, hc⟩
/-- .. and where the list loses its head. -/
theorem pop_turned {w W5 : World} {p m k b g : Nat} {x : It} {a : Ac} {G : List Lk} {ad : Option Addr} {cap : Nat} (hG : G.length ≤ k) (hW : Below w.heap.size w W5) (hQ : Qu w.heap.size W5 p m G) (hO : ReadsOut itR (qF p m G) W5 (.slice ad (G.length + 1) cap) (x :: its G)) (hc : G.length + 1 ≤ cap)
    (hr : W5.rangeAt b 0 (acR.cells a)) : Turned w p m k b a (.slice (if cap = 1 then ad else ad.map (·.add (1 * 2))) G.length (cap - 1)) W5 := by
  refine ⟨G, hG, ⟨hW, hQ, ?_, _, _, rfl, by omega⟩, hr⟩
  by_cases e : cap = 1
  · have : G = [] := List.eq_nil_of_length_eq_zero (by omega)
    subst this
    exact .inl ⟨rfl, _, _, rfl⟩
  · rw [if_neg e]
    rcases hO with ⟨h0, _⟩ | ⟨b2, off, c2, hv, hb2, hr2⟩
    · cases h0
    · simp only [Value.slice.injEq] at hv
      obtain ⟨rfl, -, rfl⟩ := hv
      refine .inr ⟨b2, off + 2, cap - 1, ?_, hb2, fun i y hy => ?_⟩
      · simp [its, Addr.add_mid]
      · have := hr2 (i + 1) y (by simpa using hy)
        show W5.rangeAt b2 (off + 2 + i * itR.n) (itR.cells y)
        rw [show off + 2 + i * itR.n = off + (i + 1) * itR.n from by show off + 2 + i * 2 = off + (i + 1) * 2; omega]
        exact this

end Go.Proofs.Ytegkjbndnonneaa
