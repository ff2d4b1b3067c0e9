import Derived.Test.YtecjkbgepbefcaaP4
/- The law on what tiles save. -/
set_option linter.unusedVariables false
set_option linter.unusedSimpArgs false
namespace Go.V
/- Words for the walks of this text: their default arguments are tried where they are used. -/
theorem go_E20 {P Q : Prop} (k : Q) (h : P := by first | exact Nat.le_of_ble_eq_true rfl | exact trivial | exact rfl | decide | omega | (simp [splice]; done) | (constructor <;> omega) | (simp [splice]; omega)) : P ∧ Q := ⟨h, k⟩
theorem lk_E20 {α : Type} {o : Option α} {K : α → Prop} {x : α} (k : K x) (h : o = some x := by first | exact u8A (by omega) | exact u8A' (by omega) | exact intA (by omega) | exact intA' (by omega) | exact roofN (by omega) (by omega) | exact placeA (by omega) | exact placeB (by omega) | exact placeA' (by omega) | exact placeB' (by omega)) : optK o K := optK_of h k
theorem sc_E20 {P : Program} {g : FuncId} {args args' : List D} {res : D} (h : Sat P g args res) (e : args' = args := by repeat (first | rfl | exact vfull (by first | (simp [splice]; done) | (simp [splice]; omega)) | exact rfull (by first | (simp [splice]; done) | (simp [splice]; omega)) | exact vplace (by simp; done) (by omega) | exact vsplice (by simp) (by simp) | refine ceq ?_ ?_ | refine Eq.trans (vsplice (by first | (simp; done) | (simp; omega)) (by first | (simp; done) | (simp; omega))) ?_)) : Sat P g args' res := Sat.of_eq h e
theorem hold_E20 {P : Prop} (h : P := by (repeat' (first | exact trivial | apply And.intro)) <;> (first | rfl | exact succ8 (by omega) | exact succ64 (by omega) | exact CapOk.fn (by assumption) _ _ | exact vintS (by omega) | exact vintS (by rw [w64 (by omega) (by omega)]; omega) | exact vintS (by rw [w8 (by omega) (by omega)]; omega) | exact vslcS (by omega) | exact vslcS (by simp))) : P := h
theorem okt_E20 {P : Prop} (h : P := by first | omega | (dsimp only; omega) | ((repeat' apply And.intro) <;> omega) | (dsimp only; (repeat' apply And.intro) <;> omega) | trivial) : P := h
end Go.V
namespace Go.V
/-- What the law on saves asks of a tile. -/
structure SvIn (r : Roof) (w : Nat → Int) (q : Pl) : Prop where
  lt : q.1 < 8 ∧ q.2 < 8
  has : hasP r q
  t : 0 ≤ r.t q.1 q.2 ∧ r.t q.1 q.2 ≤ 255
  wr : IntKind.i64.wrap (dsI r w - svI r w q.1 q.2) = dsI (putR r q.1 q.2 0) w
  zero : r.t q.1 q.2 = 0 → svI r w q.1 q.2 = 0
  le : r.t q.1 q.2 ≠ 0 → svI r w q.1 q.2 ≤ bqS r w
  at' : q = bqP r w → bqK r = 0 → svI r w q.1 q.2 = bqS r w
theorem svIn {r : Roof} (hr : r.In) {w : Nat → Int} (hO : okN r w = true) {q : Pl} (h : q ∈ gridP r.w.toNat r.h.toNat) : SvIn r w q := by
  have hb := okR_bounds (okN_R hO)
  have hw := okN_w hO
  have hq : hasP r q := by
    unfold gridP rowP at h
    simp only [List.mem_flatMap, List.mem_range, List.mem_map] at h
    obtain ⟨c, hc, k, hk, rfl⟩ := h
    exact ⟨by show (c : Int) < r.h; omega, by show (k : Int) < r.w; omega⟩
  have h1 := hq.1
  have h2 := hq.2
  have h3 := dsI_in r hw
  have h4 := dsI_in (putR r q.1 q.2 0) hw
  refine ⟨⟨by omega, by omega⟩, hq, hr.t _ _, ?_, svI_same, ?_, ?_⟩
  · have e : dsI r w - svI r w q.1 q.2 = dsI (putR r q.1 q.2 0) w := by unfold svI; omega
    rw [e, w64 (by omega) (by omega)]
  · intro ht
    have hm := (wrP_mem h).2 ht
    have hp : 0 < (wrP r).length := List.length_pos_of_mem hm
    rw [show bqS r w = _ from if_pos hp]
    exact svI_le hm
  · intro e hk
    by_cases hp : 0 < (wrP r).length
    · rw [show bqP r w = _ from if_pos hp] at e
      rw [e]
      exact (if_pos hp).symm
    · rw [show bqK r = _ from if_neg hp] at hk; omega
theorem wrP_has {r : Roof} {q : Pl} (h : q ∈ wrP r) : hasP r q ∧ r.t q.1 q.2 ≠ 0 := by
  rw [wrP_eq, List.mem_filter] at h
  obtain ⟨h, h2⟩ := h
  unfold gridP rowP at h
  simp only [List.mem_flatMap, List.mem_range, List.mem_map] at h
  obtain ⟨c, hc, k, hk, rfl⟩ := h
  exact ⟨⟨by show (c : Int) < r.h; omega, by show (k : Int) < r.w; omega⟩, by unfold wrB at h2; simpa using h2⟩
/-- One round of the replay. -/
structure MdStep (r : Roof) (w : Nat → Int) (b : Int) (n k : Nat) : Prop where
  rin : (mdR r w k).In
  ok : okN (mdR r w k) w = true
  gt : ¬ dsI (mdR r w k) w ≤ b
  ds : 0 ≤ dsI (mdR r w k) w ∧ dsI (mdR r w k) w ≤ 136000
  bp : bqP (mdR r w k) w = nthP (mdL r w n) k
  bk : bqK (mdR r w k) = 0
  lt : (nthP (mdL r w n) k).1 < 8 ∧ (nthP (mdL r w n) k).2 < 8
  has : hasP (mdR r w k) (nthP (mdL r w n) k)
  next : putR (mdR r w k) (nthP (mdL r w n) k).1 (nthP (mdL r w n) k).2 0 = mdR r w (k + 1)
  ne : ¬ roofC (mdR r w (k + 1)) = roofC (mdR r w k)
theorem mdStep {r : Roof} {w : Nat → Int} (hr : r.In) (hO : okN r w = true) {b : Int} {n : Nat} (h : MdAll r w b n) {k : Nat} (hk : k < n) : MdStep r w b n k := by
  have hb := okR_bounds (okN_R hO)
  have hbk : Rb (mdR r w k) := by unfold Rb; simpa using hb
  have hp := h.wr k hk
  have hm := bwP_mem (w := w) hp
  have hw := okN_w hO
  have e := mdL_nth r w n k hk
  have hl := bwP_in (w := w) hbk hp
  have hh := wrP_has hm
  have hg := h.no k hk
  refine ⟨mdR_in hr w k, okN_md hO k, by omega, dsI_in _ hw, by rw [e]; exact if_pos hp, if_pos hp, by rw [e]; exact hl, by rw [e]; exact hh.1, by rw [e]; rfl, ?_⟩
  exact roofC_ne hl.1 hl.2 hh.2
theorem mdL_in {r : Roof} (hb : Rb r) {w : Nat → Int} {b : Int} {n : Nat} (h : MdAll r w b n) : AllIn (mdL r w n) := by
  intro k hk
  rw [mdL_len] at hk
  rw [mdL_nth r w n k hk]
  exact bwP_in (by unfold Rb at hb; simpa using hb) (h.wr k hk)
theorem vsplT2 {zs xs ys : List Value} {n : Nat} (h0 : zs.length = ys.length) (h : xs.length = ys.length) (h2 : ys.length ≤ n) : some (D.v (.agg ⟨splice zs 0 (((splice xs 0 ys).drop 0).take n)⟩)) = some (D.v (.agg ⟨ys⟩)) := by
  rw [splice_all h, take_full0 h2, splice_all h0]
theorem vsplT1 {xs ys : List Value} {n : Nat} (h : xs.length = ys.length) (h2 : ys.length ≤ n) : some (D.v (.agg ⟨splice xs 0 ((ys.drop 0).take n)⟩)) = some (D.v (.agg ⟨ys⟩)) := by
  rw [take_full0 h2, splice_all h]
end Go.V
namespace Go.Proofs.Ytecjkbgepbefcaa
open Go.V
set_option maxHeartbeats 1500000 in
set_option maxRecDepth 20000 in
theorem fnSaves_sat (xs : List Int) (hx : Bytes xs) (ys : List Int) (hy : Bytes ys) : Sat Try.prog 4 [u8D false xs, u8D false ys] (.v (.bool true)) := by
  refine sat_of_wp hMix tOk Try.func4 rfl rfl Try.ntmps4 rfl rfl Try.results4 (by kernel_rfl) ?_
  conv => whnf
  repeat (first | (refine go_E20 ?_; conv => whnf) | (refine lk_E20 ?_; conv => whnf))
  first | refine ⟨_, _, rfl, sc_E20 (a2Long_sat xs ys false false), ?_⟩ | refine .inl ⟨_, _, rfl, sc_E20 (a2Long_sat xs ys false false), ?_⟩
  conv => whnf
  repeat (first | (refine go_E20 ?_; conv => whnf) | (refine lk_E20 ?_; conv => whnf))
  cases hlong : (decide ((xs.length : Int) > 3000) || decide ((ys.length : Int) > 3000))
  case true =>
    conv => whnf
    repeat (first | (refine go_E20 ?_; conv => whnf) | (refine lk_E20 ?_; conv => whnf))
    first | refine ⟨rfl, _, rfl, ?_⟩ | refine ⟨_, rfl, ?_⟩
    rfl
  have hxl : xs.length ≤ 3000 := by simp at hlong; omega
  have hyl : ys.length ≤ 3000 := by simp at hlong; omega
  obtain ⟨hrok, hrin⟩ := dwR_ok hx
  have hb := okR_bounds hrok
  obtain ⟨hO, hwin⟩ := rnR_ok hy hrok
  have hat0 := atV_in hy 0 (n := 40) (by omega)
  have hat1 := atV_in hy 1 (n := 30) (by omega)
  have hroof := a2Roof_sat xs hx hxl false
  have hrain := a2Rain_sat ys hy hyl (dwR xs).1 hrin hb false
  have hat0s := a2At_sat ys hy hyl 0 (by omega) 40 (by omega) false
  have hat1s := a2At_sat ys hy hyl 1 (by omega) 30 (by omega) false
  have hsz : ∃ size : Int, size = 1 + atV ys 1 30 := ⟨_, rfl⟩
  obtain ⟨size, hsize⟩ := hsz
  have hwsz : IntKind.i64.wrap (1 + atV ys 1 30) = size := by rw [w64 (by omega) (by omega), hsize]
  generalize atV ys 1 30 = at1 at *
  generalize atV ys 0 40 = bound at *
  generalize hw' : (rnR ys (dwR xs).1).1 = w at *
  generalize (dwR xs).1 = r at *
  clear hw'
  have hw1 : W1 w := okN_w hO
  have hds := dsI_in r hw1
  have sD := implDripSum_sat r hrin w hwin hO
  have sD' := specDripSum_sat r hrin w hwin hO
  have sB := implBestSave_sat r hrin w hwin hO
  have sB' := specBestSave_sat r hrin w hwin hO
  have sK := specCountKind_sat r hrin hrok
  have sP := a2Places_sat r hrin hb
  have hGl := gridP_size hb
  have hGin := gridP_in (w := r.w.toNat) (h := r.h.toNat) (by omega) (by omega)
  have hck := ckN_len r
  have hq := fun i (hi : i < (gridP r.w.toNat r.h.toNat).length) => svIn hrin hO (nthP_mem hi)
  have hbq : (bqP r w).1 < 8 ∧ (bqP r w).2 < 8 := by
    by_cases hp : 0 < (wrP r).length
    · rw [show bqP r w = _ from if_pos hp]; exact bwP_in hb hp
    · rw [show bqP r w = _ from if_neg hp]; exact ⟨by omega, by omega⟩
  have hbK : (bqK r = 0 ∧ 0 < (wrP r).length) ∨ (bqK r = 6 ∧ (wrP r).length = 0) := by
    by_cases hp : 0 < (wrP r).length
    · exact .inl ⟨if_pos hp, hp⟩
    · exact .inr ⟨if_neg hp, by omega⟩
  obtain ⟨n, hn⟩ := mdAll hb hO (b := bound) hat0.1
  have hn64 := hn.le
  have sM := mendUntil_sat r hrin w hwin bound
  have sM' := specMendUntil_sat r hrin w hwin bound
  unfold mdV at sM sM'
  rw [hn.is, mdK_zero hO hat0.1] at sM sM'
  have hmin := mdL_in hb hn
  have hml := mdL_len r w n
  unfold bqV at sB sB'
  have hbS : -136000 ≤ bqS r w ∧ bqS r w ≤ 136000 := by
    unfold bqS
    split
    · exact svI_in r hw1 _ _
    · omega
  generalize hbPe : bqP r w = bP at *
  generalize hbSe : bqS r w = bS at *
  generalize hbKe : bqK r = bK at *
  generalize hckn : (ckN r 0).length = ck at *
  generalize hwn : (wrP r).length = wn at *
  generalize gridP r.w.toNat r.h.toNat = G at *
  have ne : ∀ z : Int, (z != z) = false := fun z => by simp
  conv => whnf
  repeat (first | (refine go_E20 ?_; conv => whnf) | (refine lk_E20 ?_; conv => whnf))
  first | refine ⟨_, _, rfl, sc_E20 (hroof), ?_⟩ | refine .inl ⟨_, _, rfl, sc_E20 (hroof), ?_⟩
  conv => whnf
  repeat (first | (refine go_E20 ?_; conv => whnf) | (refine lk_E20 ?_; conv => whnf))
  first | refine ⟨_, _, rfl, sc_E20 (hrain), ?_⟩ | refine .inl ⟨_, _, rfl, sc_E20 (hrain), ?_⟩
  conv => whnf
  repeat (first | (refine go_E20 ?_; conv => whnf) | (refine lk_E20 ?_; conv => whnf))
  first | refine ⟨_, _, rfl, sc_E20 (sD), ?_⟩ | refine .inl ⟨_, _, rfl, sc_E20 (sD), ?_⟩
  conv => whnf
  repeat (first | (refine go_E20 ?_; conv => whnf) | (refine lk_E20 ?_; conv => whnf))
  first | refine ⟨_, _, rfl, sc_E20 (sD'), ?_⟩ | refine .inl ⟨_, _, rfl, sc_E20 (sD'), ?_⟩
  conv => whnf
  repeat (first | (refine go_E20 ?_; conv => whnf) | (refine lk_E20 ?_; conv => whnf))
  first | refine ⟨_, _, rfl, sc_E20 (sB), ?_⟩ | refine .inl ⟨_, _, rfl, sc_E20 (sB), ?_⟩
  conv => whnf
  repeat (first | (refine go_E20 ?_; conv => whnf) | (refine lk_E20 ?_; conv => whnf))
  first | refine ⟨_, _, rfl, sc_E20 (sB'), ?_⟩ | refine .inl ⟨_, _, rfl, sc_E20 (sB'), ?_⟩
  conv => whnf
  repeat (first | (refine go_E20 ?_; conv => whnf) | (refine lk_E20 ?_; conv => whnf))
  first | refine ⟨_, _, rfl, sc_E20 (sK), ?_⟩ | refine .inl ⟨_, _, rfl, sc_E20 (sK), ?_⟩
  conv => whnf
  repeat (first | (refine go_E20 ?_; conv => whnf) | (refine lk_E20 ?_; conv => whnf))
  first | refine ⟨_, _, rfl, sc_E20 (sP), ?_⟩ | refine .inl ⟨_, _, rfl, sc_E20 (sP), ?_⟩
  conv => whnf
  repeat (first | (refine go_E20 ?_; conv => whnf) | (refine lk_E20 ?_; conv => whnf))
  have hd0 : decide (bP = bP) = true := by simp
  have hc1 : (!((bK == 0) == decide ((ck : Int) < (G.length : Int)))) = false := by
    rcases hbK with ⟨h1, h2⟩ | ⟨h1, h2⟩
    · rw [h1, show decide ((ck : Int) < (G.length : Int)) = true by simp; omega]; rfl
    · rw [h1, show decide ((ck : Int) < (G.length : Int)) = false by simp; omega]; rfl
  have hk : (bK != 0) = false ∨ ((bK != 0) = true ∧ (bK != 6) = false) := by
    rcases hbK with ⟨h1, h2⟩ | ⟨h1, h2⟩
    · left; rw [h1]; rfl
    · right; rw [h1]; exact ⟨rfl, rfl⟩
  simp only [ne]
  conv => whnf
  repeat (first | (refine go_E20 ?_; conv => whnf) | (refine lk_E20 ?_; conv => whnf))
  simp only [ne]
  conv => whnf
  repeat (first | (refine go_E20 ?_; conv => whnf) | (refine lk_E20 ?_; conv => whnf))
  refine ⟨_, eqAgg_place hbq hbq rfl rfl, ?_⟩
  simp only [hd0]
  conv => whnf
  repeat (first | (refine go_E20 ?_; conv => whnf) | (refine lk_E20 ?_; conv => whnf))
  simp only [ne]
  conv => whnf
  repeat (first | (refine go_E20 ?_; conv => whnf) | (refine lk_E20 ?_; conv => whnf))
  simp only [hc1]
  conv => whnf
  repeat (first | (refine go_E20 ?_; conv => whnf) | (refine lk_E20 ?_; conv => whnf))
  rcases hk with hk | ⟨hk, hk6⟩
  · simp only [hk]
    conv => whnf
    repeat (first | (refine go_E20 ?_; conv => whnf) | (refine lk_E20 ?_; conv => whnf))
    refine loop_rule (α := Nat) (fun i => [(1, u8D false ys), (5, .ptr (5, 0, 0) 0), (6, .ptr (6, 0, 0) 0), (9, .v (.int .i64 (dsI r w))), (13, .v (.int .i64 bK)), (14, .ptr (14, 0, 0) 0), (15, .v (.int .i64 bS)), (19, .slc true 2 (97, 0, 0) 0 G.length), (20, .v (.int .i64 i))]) (fun i => [((5, 0, 0), roofD r), ((6, 0, 0), raiD w), ((14, 0, 0), plD bP), ((97, 0, 0), .v (.agg ⟨placesC G⟩))]) (fun i => i ≤ G.length) (fun i => G.length - i) (0) ?_ (sim_of (rn := [((5, 0, 0), (5, 0, 0)), ((6, 0, 0), (6, 0, 0)), ((14, 0, 0), (14, 0, 0)), ((97, 0, 0), (97, 0, 0))]) rfl ?_ ?_) ?_
    · exact okt_E20
    · exact hold_E20
    · ((repeat' (first | exact trivial | apply And.intro)) <;> ((first | refine ⟨_, _, rfl, rfl, ?_⟩ ); first | rfl | (first | exact csplice (by simp) | exact csplice rfl)))
    intro i hi
    conv => whnf
    repeat (first | (refine go_E20 ?_; conv => whnf) | (refine lk_E20 ?_; conv => whnf))
    cases hlp : decide ((i : Int) < (G.length : Int))
    case true =>
      have hin : i < G.length := by simpa using hlp
      have hqi := hq i hin
      have hl := hqi.lt
      have hT := hqi.t
      have hwt : IntKind.i64.wrap (r.t (nthP G i).1 (nthP G i).2) = r.t (nthP G i).1 (nthP G i).2 := w64 (by omega) (by omega)
      have hrw := putR_in (c := (nthP G i).1) (k := (nthP G i).2) (x := 0) hrin (by omega)
      have hOw := okN_put hO (nthP G i).1 (nthP G i).2
      conv => whnf
      repeat (first | (refine go_E20 ?_; conv => whnf) | (refine lk_E20 ?_; conv => whnf))
      first | refine ⟨_, _, rfl, sc_E20 (implSaveOf_sat r hrin w hwin hO (nthP G i) hqi.has), ?_⟩ | refine .inl ⟨_, _, rfl, sc_E20 (implSaveOf_sat r hrin w hwin hO (nthP G i) hqi.has), ?_⟩
      conv => whnf
      repeat (first | (refine go_E20 ?_; conv => whnf) | (refine lk_E20 ?_; conv => whnf))
      first | refine ⟨_, _, rfl, sc_E20 (specSaveOf_sat r hrin w hwin hO (nthP G i) hqi.has), ?_⟩ | refine .inl ⟨_, _, rfl, sc_E20 (specSaveOf_sat r hrin w hwin hO (nthP G i) hqi.has), ?_⟩
      conv => whnf
      repeat (first | (refine go_E20 ?_; conv => whnf) | (refine lk_E20 ?_; conv => whnf))
      first | refine ⟨_, _, rfl, sc_E20 (specKindAt_sat r hrin hrok (nthP G i) hqi.has), ?_⟩ | refine .inl ⟨_, _, rfl, sc_E20 (specKindAt_sat r hrin hrok (nthP G i) hqi.has), ?_⟩
      conv => whnf
      repeat (first | (refine go_E20 ?_; conv => whnf) | (refine lk_E20 ?_; conv => whnf))
      first | refine ⟨_, _, rfl, sc_E20 (specSetTile_sat r hrin hrok (nthP G i) hqi.has), ?_⟩ | refine .inl ⟨_, _, rfl, sc_E20 (specSetTile_sat r hrin hrok (nthP G i) hqi.has), ?_⟩
      conv => whnf
      repeat (first | (refine go_E20 ?_; conv => whnf) | (refine lk_E20 ?_; conv => whnf))
      first | refine ⟨_, _, rfl, sc_E20 (implDripSum_sat (putR r (nthP G i).1 (nthP G i).2 0) hrw w hwin hOw), ?_⟩ | refine .inl ⟨_, _, rfl, sc_E20 (implDripSum_sat (putR r (nthP G i).1 (nthP G i).2 0) hrw w hwin hOw), ?_⟩
      conv => whnf
      repeat (first | (refine go_E20 ?_; conv => whnf) | (refine lk_E20 ?_; conv => whnf))
      rw [ne]
      conv => whnf
      repeat (first | (refine go_E20 ?_; conv => whnf) | (refine lk_E20 ?_; conv => whnf))
      rw [hqi.wr, ne]
      conv => whnf
      repeat (first | (refine go_E20 ?_; conv => whnf) | (refine lk_E20 ?_; conv => whnf))
      by_cases hT0 : r.t (nthP G i).1 (nthP G i).2 = 0
      · rw [show (r.t (nthP G i).1 (nthP G i).2 == 0) = true by simpa using hT0]
        conv => whnf
        repeat (first | (refine go_E20 ?_; conv => whnf) | (refine lk_E20 ?_; conv => whnf))
        rw [show (svI r w (nthP G i).1 (nthP G i).2 != 0) = false by rw [hqi.zero hT0]; rfl]
        conv => whnf
        repeat (first | (refine go_E20 ?_; conv => whnf) | (refine lk_E20 ?_; conv => whnf))
        rw [show (r.t (nthP G i).1 (nthP G i).2 != 0) = false by rw [hT0]; rfl]
        conv => whnf
        repeat (first | (refine go_E20 ?_; conv => whnf) | (refine lk_E20 ?_; conv => whnf))
        refine ⟨_, eqAgg_place hl hbq (place_load (by simp) hin) rfl, ?_⟩
        cases hat : decide (nthP G i = bP)
        · conv => whnf
          repeat (first | (refine go_E20 ?_; conv => whnf) | (refine lk_E20 ?_; conv => whnf))
          refine ⟨i + 1, ?_, ?_, sim_of (rn := [((5, 0, 0), (5, 0, 0)), ((6, 0, 0), (6, 0, 0)), ((14, 0, 0), (14, 0, 0)), ((97, 0, 0), (97, 0, 0))]) rfl ?_ ?_⟩
          · (dsimp only; omega)
          · exact okt_E20
          · exact hold_E20
          · ((repeat' (first | exact trivial | apply And.intro)) <;> ((first | refine ⟨_, _, rfl, rfl, ?_⟩ ); rfl))
        conv => whnf
        repeat (first | (refine go_E20 ?_; conv => whnf) | (refine lk_E20 ?_; conv => whnf))
        cases hb0 : (bK == 0)
        · conv => whnf
          repeat (first | (refine go_E20 ?_; conv => whnf) | (refine lk_E20 ?_; conv => whnf))
          refine ⟨i + 1, ?_, ?_, sim_of (rn := [((5, 0, 0), (5, 0, 0)), ((6, 0, 0), (6, 0, 0)), ((14, 0, 0), (14, 0, 0)), ((97, 0, 0), (97, 0, 0))]) rfl ?_ ?_⟩
          · (dsimp only; omega)
          · exact okt_E20
          · exact hold_E20
          · ((repeat' (first | exact trivial | apply And.intro)) <;> ((first | refine ⟨_, _, rfl, rfl, ?_⟩ ); rfl))
        conv => whnf
        repeat (first | (refine go_E20 ?_; conv => whnf) | (refine lk_E20 ?_; conv => whnf))
        rw [show (svI r w (nthP G i).1 (nthP G i).2 != bS) = false by rw [hqi.at' (by rw [hbPe]; simpa using hat) (by rw [hbKe]; simpa using hb0), hbSe]; simp]
        conv => whnf
        repeat (first | (refine go_E20 ?_; conv => whnf) | (refine lk_E20 ?_; conv => whnf))
        refine ⟨i + 1, ?_, ?_, sim_of (rn := [((5, 0, 0), (5, 0, 0)), ((6, 0, 0), (6, 0, 0)), ((14, 0, 0), (14, 0, 0)), ((97, 0, 0), (97, 0, 0))]) rfl ?_ ?_⟩
        · (dsimp only; omega)
        · exact okt_E20
        · exact hold_E20
        · ((repeat' (first | exact trivial | apply And.intro)) <;> ((first | refine ⟨_, _, rfl, rfl, ?_⟩ ); rfl))
      · rw [show (r.t (nthP G i).1 (nthP G i).2 == 0) = false by simpa using hT0]
        conv => whnf
        repeat (first | (refine go_E20 ?_; conv => whnf) | (refine lk_E20 ?_; conv => whnf))
        rw [show (r.t (nthP G i).1 (nthP G i).2 != 0) = true by simpa using hT0]
        conv => whnf
        repeat (first | (refine go_E20 ?_; conv => whnf) | (refine lk_E20 ?_; conv => whnf))
        rw [show decide (svI r w (nthP G i).1 (nthP G i).2 > bS) = false by have := hqi.le hT0; simp; omega]
        conv => whnf
        repeat (first | (refine go_E20 ?_; conv => whnf) | (refine lk_E20 ?_; conv => whnf))
        refine ⟨_, eqAgg_place hl hbq (place_load (by simp) hin) rfl, ?_⟩
        cases hat : decide (nthP G i = bP)
        · conv => whnf
          repeat (first | (refine go_E20 ?_; conv => whnf) | (refine lk_E20 ?_; conv => whnf))
          refine ⟨i + 1, ?_, ?_, sim_of (rn := [((5, 0, 0), (5, 0, 0)), ((6, 0, 0), (6, 0, 0)), ((14, 0, 0), (14, 0, 0)), ((97, 0, 0), (97, 0, 0))]) rfl ?_ ?_⟩
          · (dsimp only; omega)
          · exact okt_E20
          · exact hold_E20
          · ((repeat' (first | exact trivial | apply And.intro)) <;> ((first | refine ⟨_, _, rfl, rfl, ?_⟩ ); rfl))
        conv => whnf
        repeat (first | (refine go_E20 ?_; conv => whnf) | (refine lk_E20 ?_; conv => whnf))
        cases hb0 : (bK == 0)
        · conv => whnf
          repeat (first | (refine go_E20 ?_; conv => whnf) | (refine lk_E20 ?_; conv => whnf))
          refine ⟨i + 1, ?_, ?_, sim_of (rn := [((5, 0, 0), (5, 0, 0)), ((6, 0, 0), (6, 0, 0)), ((14, 0, 0), (14, 0, 0)), ((97, 0, 0), (97, 0, 0))]) rfl ?_ ?_⟩
          · (dsimp only; omega)
          · exact okt_E20
          · exact hold_E20
          · ((repeat' (first | exact trivial | apply And.intro)) <;> ((first | refine ⟨_, _, rfl, rfl, ?_⟩ ); rfl))
        conv => whnf
        repeat (first | (refine go_E20 ?_; conv => whnf) | (refine lk_E20 ?_; conv => whnf))
        rw [show (svI r w (nthP G i).1 (nthP G i).2 != bS) = false by rw [hqi.at' (by rw [hbPe]; simpa using hat) (by rw [hbKe]; simpa using hb0), hbSe]; simp]
        conv => whnf
        repeat (first | (refine go_E20 ?_; conv => whnf) | (refine lk_E20 ?_; conv => whnf))
        refine ⟨i + 1, ?_, ?_, sim_of (rn := [((5, 0, 0), (5, 0, 0)), ((6, 0, 0), (6, 0, 0)), ((14, 0, 0), (14, 0, 0)), ((97, 0, 0), (97, 0, 0))]) rfl ?_ ?_⟩
        · (dsimp only; omega)
        · exact okt_E20
        · exact hold_E20
        · ((repeat' (first | exact trivial | apply And.intro)) <;> ((first | refine ⟨_, _, rfl, rfl, ?_⟩ ); rfl))
    have hiG : i = G.length := by simp at hlp; omega
    subst hiG
    conv => whnf
    repeat (first | (refine go_E20 ?_; conv => whnf) | (refine lk_E20 ?_; conv => whnf))
    first | refine ⟨_, _, rfl, sc_E20 (hat0s), ?_⟩ | refine .inl ⟨_, _, rfl, sc_E20 (hat0s), ?_⟩
    conv => whnf
    repeat (first | (refine go_E20 ?_; conv => whnf) | (refine lk_E20 ?_; conv => whnf))
    first | refine ⟨_, _, rfl, sc_E20 (sM), ?_⟩ | refine .inl ⟨_, _, rfl, sc_E20 (sM), ?_⟩
    conv => whnf
    repeat (first | (refine go_E20 ?_; conv => whnf) | (refine lk_E20 ?_; conv => whnf))
    first | refine ⟨_, _, rfl, sc_E20 (sM'), ?_⟩ | refine .inl ⟨_, _, rfl, sc_E20 (sM'), ?_⟩
    conv => whnf
    repeat (first | (refine go_E20 ?_; conv => whnf) | (refine lk_E20 ?_; conv => whnf))
    first | refine ⟨_, _, rfl, sc_E20 (samePlaces_sat (mdL r w n) (by omega) hmin false false), ?_⟩ | refine .inl ⟨_, _, rfl, sc_E20 (samePlaces_sat (mdL r w n) (by omega) hmin false false), ?_⟩
    conv => whnf
    repeat (first | (refine go_E20 ?_; conv => whnf) | (refine lk_E20 ?_; conv => whnf))
    rw [show (!(((mdL r w n).length : Int) == 0) == decide (dsI r w ≤ bound)) = false by
      rw [show (((mdL r w n).length : Int) == 0) = decide (dsI r w ≤ bound) by
        rw [Bool.eq_iff_iff]; simp only [beq_iff_eq, decide_eq_true_eq]; rw [← hn.zero]; omega]
      simp]
    conv => whnf
    repeat (first | (refine go_E20 ?_; conv => whnf) | (refine lk_E20 ?_; conv => whnf))
    refine loop_rule (α := Nat) (fun k => [(1, u8D false ys), (5, .ptr (5, 0, 0) 0), (6, .ptr (6, 0, 0) 0), (9, .v (.int .i64 (dsI r w))), (31, .v (.int .i64 bound)), (34, .slc true 2 (274, 0, 0) 0 (mdL r w n).length), (36, .ptr (36, 0, 0) 0), (37, .v (.int .i64 k))]) (fun k => [((5, 0, 0), roofD r), ((6, 0, 0), raiD w), ((36, 0, 0), roofD (mdR r w k)), ((274, 0, 0), .v (.agg ⟨placesC (mdL r w n)⟩))]) (fun k => k ≤ n) (fun k => n - k) (0) ?_ (sim_of (rn := [((5, 0, 0), (5, 0, 0)), ((6, 0, 0), (6, 0, 0)), ((36, 0, 0), (36, 1, 0)), ((274, 0, 0), (274, 1, 0))]) rfl ?_ ?_) ?_
    · exact okt_E20
    · exact hold_E20
    · ((repeat' (first | exact trivial | apply And.intro)) <;> ((first | refine ⟨_, _, rfl, rfl, ?_⟩ ); first | rfl | (exact vsplT1 (by simp) (by simp))))
    intro k hk
    conv => whnf
    repeat (first | (refine go_E20 ?_; conv => whnf) | (refine lk_E20 ?_; conv => whnf))
    rw [hml]
    cases hkl : decide ((k : Int) < (n : Int))
    case true =>
      have hkn : k < n := by simpa using hkl
      have hst := mdStep hrin hO hn hkn
      have hkm : k < (mdL r w n).length := by omega
      have sDk := implDripSum_sat (mdR r w k) hst.rin w hwin hst.ok
      have sBk := implBestSave_sat (mdR r w k) hst.rin w hwin hst.ok
      unfold bqV at sBk
      rw [hst.bp, hst.bk] at sBk
      have sSk := specSetTile_sat (mdR r w k) hst.rin (okN_R hst.ok) (nthP (mdL r w n) k) hst.has
      rw [hst.next] at sSk
      conv => whnf
      repeat (first | (refine go_E20 ?_; conv => whnf) | (refine lk_E20 ?_; conv => whnf))
      first | refine ⟨_, _, rfl, sc_E20 (sDk), ?_⟩ | refine .inl ⟨_, _, rfl, sc_E20 (sDk), ?_⟩
      conv => whnf
      repeat (first | (refine go_E20 ?_; conv => whnf) | (refine lk_E20 ?_; conv => whnf))
      first | refine ⟨_, _, rfl, sc_E20 (sBk), ?_⟩ | refine .inl ⟨_, _, rfl, sc_E20 (sBk), ?_⟩
      conv => whnf
      repeat (first | (refine go_E20 ?_; conv => whnf) | (refine lk_E20 ?_; conv => whnf))
      rw [show decide (dsI (mdR r w k) w ≤ bound) = false by simpa using hst.gt]
      conv => whnf
      repeat (first | (refine go_E20 ?_; conv => whnf) | (refine lk_E20 ?_; conv => whnf))
      refine ⟨_, eqAgg_place hst.lt hst.lt rfl (place_load (by simp) hkm), ?_⟩
      conv => whnf
      repeat (first | (refine go_E20 ?_; conv => whnf) | (refine lk_E20 ?_; conv => whnf))
      rw [show decide (nthP (mdL r w n) k = nthP (mdL r w n) k) = true by simp]
      conv => whnf
      repeat (first | (refine go_E20 ?_; conv => whnf) | (refine lk_E20 ?_; conv => whnf))
      first | refine ⟨_, _, rfl, sc_E20 (sSk), ?_⟩ | refine .inl ⟨_, _, rfl, sc_E20 (sSk), ?_⟩
      conv => whnf
      repeat (first | (refine go_E20 ?_; conv => whnf) | (refine lk_E20 ?_; conv => whnf))
      refine ⟨_, eqAgg_roof2 (b := false) (mdR_in hrin w (k + 1)) hst.rin (tds (n := 67) (by simp) (by simp)) (take_full0 (n := 67) (by simp)) (by simpa using hst.ne), ?_⟩
      conv => whnf
      repeat (first | (refine go_E20 ?_; conv => whnf) | (refine lk_E20 ?_; conv => whnf))
      refine ⟨k + 1, ?_, ?_, sim_of (rn := [((5, 0, 0), (5, 0, 0)), ((6, 0, 0), (6, 0, 0)), ((36, 0, 0), (36, 0, 0)), ((274, 0, 0), (274, 0, 0))]) rfl ?_ ?_⟩
      · (dsimp only; omega)
      · exact okt_E20
      · exact hold_E20
      · ((repeat' (first | exact trivial | apply And.intro)) <;> ((first | refine ⟨_, _, rfl, rfl, ?_⟩ ); first | rfl | (first | exact vsplT2 (by simp) (by simp) (by simp))))
    have hkn : k = n := by simp at hkl; omega
    subst hkn
    have sDn := implDripSum_sat (mdR r w k) (mdR_in hrin w k) w hwin (okN_md hO k)
    have hend := hn.end'
    have sF1 := implPailsFor_sat r hrin w hwin hO size (by omega)
    have sF2 := specPailsFor_sat r hrin w hwin hO size (by omega)
    have sF3 := implFillTimes_sat r hrin w hwin hO size (by omega)
    have sF4 := specCellDrips_sat r hrin w hwin hO
    obtain ⟨p1, p2, p3, p4⟩ := plI_facts hb.1 hw1 (s := size) (by omega)
    have hcn := cN_le hb.1
    have hcl1 := qL_len (ftI r w size) (cN r)
    have hcl2 := qL_len (clI r w) (cN r)
    have hps : plI r w size * size ≤ 136000 * 30 := Int.mul_le_mul p4 (by omega) (by omega) (by omega)
    have hps0 : 0 ≤ plI r w size * size := Int.mul_nonneg p3 (by omega)
    have hwm : IntKind.i64.wrap (plI r w size * size) = plI r w size * size := w64 (by omega) (by omega)
    have hz : ((plI r w size == 0) != (dsI r w == 0)) = false := by
      rw [show (plI r w size == 0) = (dsI r w == 0) by rw [Bool.eq_iff_iff]; simpa using p2]; simp
    have hz2 : (!((plI r w size == 0) == (dsI r w == 0))) = false := hz
    generalize plI r w size = pl at *
    conv => whnf
    repeat (first | (refine go_E20 ?_; conv => whnf) | (refine lk_E20 ?_; conv => whnf))
    first | refine ⟨_, _, rfl, sc_E20 (sDn), ?_⟩ | refine .inl ⟨_, _, rfl, sc_E20 (sDn), ?_⟩
    conv => whnf
    repeat (first | (refine go_E20 ?_; conv => whnf) | (refine lk_E20 ?_; conv => whnf))
    first | refine ⟨_, _, rfl, sc_E20 (hat1s), ?_⟩ | refine .inl ⟨_, _, rfl, sc_E20 (hat1s), ?_⟩
    conv => whnf
    repeat (first | (refine go_E20 ?_; conv => whnf) | (refine lk_E20 ?_; conv => whnf))
    rw [hwsz]
    conv => whnf
    repeat (first | (refine go_E20 ?_; conv => whnf) | (refine lk_E20 ?_; conv => whnf))
    first | refine ⟨_, _, rfl, sc_E20 (sF1), ?_⟩ | refine .inl ⟨_, _, rfl, sc_E20 (sF1), ?_⟩
    conv => whnf
    repeat (first | (refine go_E20 ?_; conv => whnf) | (refine lk_E20 ?_; conv => whnf))
    first | refine ⟨_, _, rfl, sc_E20 (sF2), ?_⟩ | refine .inl ⟨_, _, rfl, sc_E20 (sF2), ?_⟩
    conv => whnf
    repeat (first | (refine go_E20 ?_; conv => whnf) | (refine lk_E20 ?_; conv => whnf))
    first | refine ⟨_, _, rfl, sc_E20 (sF3), ?_⟩ | refine .inl ⟨_, _, rfl, sc_E20 (sF3), ?_⟩
    conv => whnf
    repeat (first | (refine go_E20 ?_; conv => whnf) | (refine lk_E20 ?_; conv => whnf))
    first | refine ⟨_, _, rfl, sc_E20 (sF4), ?_⟩ | refine .inl ⟨_, _, rfl, sc_E20 (sF4), ?_⟩
    conv => whnf
    repeat (first | (refine go_E20 ?_; conv => whnf) | (refine lk_E20 ?_; conv => whnf))
    simp only [show decide (dsI (mdR r w k) w > bound) = false by simpa using hend]
    conv => whnf
    repeat (first | (refine go_E20 ?_; conv => whnf) | (refine lk_E20 ?_; conv => whnf))
    simp only [ne]
    conv => whnf
    repeat (first | (refine go_E20 ?_; conv => whnf) | (refine lk_E20 ?_; conv => whnf))
    simp only [hwm, show decide (pl * size < dsI r w) = false by simp; omega]
    conv => whnf
    repeat (first | (refine go_E20 ?_; conv => whnf) | (refine lk_E20 ?_; conv => whnf))
    simp only [hcl1, hcl2, ne]
    conv => whnf
    repeat (first | (refine go_E20 ?_; conv => whnf) | (refine lk_E20 ?_; conv => whnf))
    simp only [hz, hz2]
    conv => whnf
    repeat (first | (refine go_E20 ?_; conv => whnf) | (refine lk_E20 ?_; conv => whnf))
    refine loop_rule (α := Nat) (fun c => [(47, .v (.int .i64 size)), (52, .slc true 1 (382, 0, 0) 0 (cN r)), (54, .slc true 1 (388, 0, 0) 0 (cN r)), (56, .v (.int .i64 c))]) (fun c => [((382, 0, 0), .v (.agg ⟨intsC (qL (ftI r w size) (cN r))⟩)), ((388, 0, 0), .v (.agg ⟨intsC (qL (clI r w) (cN r))⟩))]) (fun c => c ≤ cN r) (fun c => cN r - c) (0) ?_ (sim_of (rn := [((382, 0, 0), (382, 1, 0)), ((388, 0, 0), (388, 1, 0))]) rfl ?_ ?_) ?_
    · exact okt_E20
    · exact hold_E20
    · ((repeat' (first | exact trivial | apply And.intro)) <;> ((first | refine ⟨_, _, rfl, rfl, ?_⟩ ); rfl))
    intro c hc
    conv => whnf
    repeat (first | (refine go_E20 ?_; conv => whnf) | (refine lk_E20 ?_; conv => whnf))
    cases hcl : decide ((c : Int) < ((cN r : Nat) : Int))
    · conv => whnf
      repeat (first | (refine go_E20 ?_; conv => whnf) | (refine lk_E20 ?_; conv => whnf))
      first | refine ⟨rfl, _, rfl, ?_⟩ | refine ⟨_, rfl, ?_⟩
      rfl
    have hcc : c < cN r := by simpa using hcl
    obtain ⟨f1, f2, f3, f4⟩ := ftI_facts (r := r) hw1 (s := size) (by omega) (c := c) (by omega)
    have f5 := clI_in r hw1 (c := c) (by omega)
    have q1 := qL_ix (q := ftI r w size) hcc
    have q2 := qL_ix (q := clI r w) hcc
    have hzz : (!((ftI r w size c == 0) == (clI r w c == 0))) = false := by
      rw [show (ftI r w size c == 0) = (clI r w c == 0) by rw [Bool.eq_iff_iff]; simpa using f1]; simp
    conv => whnf
    repeat (first | (refine go_E20 ?_; conv => whnf) | (refine lk_E20 ?_; conv => whnf))
    rw [q1, q2, hzz]
    conv => whnf
    repeat (first | (refine go_E20 ?_; conv => whnf) | (refine lk_E20 ?_; conv => whnf))
    rw [q1]
    cases hpos : decide (ftI r w size c > 0)
    · conv => whnf
      repeat (first | (refine go_E20 ?_; conv => whnf) | (refine lk_E20 ?_; conv => whnf))
      refine ⟨c + 1, ?_, ?_, sim_of (rn := [((382, 0, 0), (382, 0, 0)), ((388, 0, 0), (388, 0, 0))]) rfl ?_ ?_⟩
      · (dsimp only; omega)
      · exact okt_E20
      · exact hold_E20
      · ((repeat' (first | exact trivial | apply And.intro)) <;> ((first | refine ⟨_, _, rfl, rfl, ?_⟩ ); rfl))
    obtain ⟨g1, g2⟩ := f4 (by simpa using hpos)
    have g0 : ftI r w size c > 0 := by simpa using hpos
    have g3 : ftI r w size c * clI r w c ≤ 10000 * 8000 := Int.mul_le_mul f3 f5.2 f5.1 (by omega)
    have g4 : (ftI r w size c - 1) * clI r w c ≤ 10000 * 8000 := Int.mul_le_mul (by omega) f5.2 f5.1 (by omega)
    have g5 : 0 ≤ ftI r w size c * clI r w c := Int.mul_nonneg f2 f5.1
    have g6 : 0 ≤ (ftI r w size c - 1) * clI r w c := Int.mul_nonneg (by omega) f5.1
    have e1 : IntKind.i64.wrap (ftI r w size c * clI r w c) = ftI r w size c * clI r w c := w64 (by omega) (by omega)
    have e2 : IntKind.i64.wrap (ftI r w size c - 1) = ftI r w size c - 1 := w64 (by omega) (by omega)
    have e3 : IntKind.i64.wrap ((ftI r w size c - 1) * clI r w c) = (ftI r w size c - 1) * clI r w c := w64 (by omega) (by omega)
    conv => whnf
    repeat (first | (refine go_E20 ?_; conv => whnf) | (refine lk_E20 ?_; conv => whnf))
    rw [q1, q2, e1, show decide (ftI r w size c * clI r w c < size) = false by simp; omega]
    conv => whnf
    repeat (first | (refine go_E20 ?_; conv => whnf) | (refine lk_E20 ?_; conv => whnf))
    rw [q1, q2, e2, e3, show decide ((ftI r w size c - 1) * clI r w c ≥ size) = false by simp; omega]
    conv => whnf
    repeat (first | (refine go_E20 ?_; conv => whnf) | (refine lk_E20 ?_; conv => whnf))
    refine ⟨c + 1, ?_, ?_, sim_of (rn := [((382, 0, 0), (382, 0, 0)), ((388, 0, 0), (388, 0, 0))]) rfl ?_ ?_⟩
    · (dsimp only; omega)
    · exact okt_E20
    · exact hold_E20
    · ((repeat' (first | exact trivial | apply And.intro)) <;> ((first | refine ⟨_, _, rfl, rfl, ?_⟩ ); rfl))
  · simp only [hk]
    conv => whnf
    repeat (first | (refine go_E20 ?_; conv => whnf) | (refine lk_E20 ?_; conv => whnf))
    simp only [hk6]
    conv => whnf
    repeat (first | (refine go_E20 ?_; conv => whnf) | (refine lk_E20 ?_; conv => whnf))
    refine loop_rule (α := Nat) (fun i => [(1, u8D false ys), (5, .ptr (5, 0, 0) 0), (6, .ptr (6, 0, 0) 0), (9, .v (.int .i64 (dsI r w))), (13, .v (.int .i64 bK)), (14, .ptr (14, 0, 0) 0), (15, .v (.int .i64 bS)), (19, .slc true 2 (97, 0, 0) 0 G.length), (20, .v (.int .i64 i))]) (fun i => [((5, 0, 0), roofD r), ((6, 0, 0), raiD w), ((14, 0, 0), plD bP), ((97, 0, 0), .v (.agg ⟨placesC G⟩))]) (fun i => i ≤ G.length) (fun i => G.length - i) (0) ?_ (sim_of (rn := [((5, 0, 0), (5, 0, 0)), ((6, 0, 0), (6, 0, 0)), ((14, 0, 0), (14, 0, 0)), ((97, 0, 0), (97, 0, 0))]) rfl ?_ ?_) ?_
    · exact okt_E20
    · exact hold_E20
    · ((repeat' (first | exact trivial | apply And.intro)) <;> ((first | refine ⟨_, _, rfl, rfl, ?_⟩ ); first | rfl | (first | exact csplice (by simp) | exact csplice rfl)))
    intro i hi
    conv => whnf
    repeat (first | (refine go_E20 ?_; conv => whnf) | (refine lk_E20 ?_; conv => whnf))
    cases hlp : decide ((i : Int) < (G.length : Int))
    case true =>
      have hin : i < G.length := by simpa using hlp
      have hqi := hq i hin
      have hl := hqi.lt
      have hT := hqi.t
      have hwt : IntKind.i64.wrap (r.t (nthP G i).1 (nthP G i).2) = r.t (nthP G i).1 (nthP G i).2 := w64 (by omega) (by omega)
      have hrw := putR_in (c := (nthP G i).1) (k := (nthP G i).2) (x := 0) hrin (by omega)
      have hOw := okN_put hO (nthP G i).1 (nthP G i).2
      conv => whnf
      repeat (first | (refine go_E20 ?_; conv => whnf) | (refine lk_E20 ?_; conv => whnf))
      first | refine ⟨_, _, rfl, sc_E20 (implSaveOf_sat r hrin w hwin hO (nthP G i) hqi.has), ?_⟩ | refine .inl ⟨_, _, rfl, sc_E20 (implSaveOf_sat r hrin w hwin hO (nthP G i) hqi.has), ?_⟩
      conv => whnf
      repeat (first | (refine go_E20 ?_; conv => whnf) | (refine lk_E20 ?_; conv => whnf))
      first | refine ⟨_, _, rfl, sc_E20 (specSaveOf_sat r hrin w hwin hO (nthP G i) hqi.has), ?_⟩ | refine .inl ⟨_, _, rfl, sc_E20 (specSaveOf_sat r hrin w hwin hO (nthP G i) hqi.has), ?_⟩
      conv => whnf
      repeat (first | (refine go_E20 ?_; conv => whnf) | (refine lk_E20 ?_; conv => whnf))
      first | refine ⟨_, _, rfl, sc_E20 (specKindAt_sat r hrin hrok (nthP G i) hqi.has), ?_⟩ | refine .inl ⟨_, _, rfl, sc_E20 (specKindAt_sat r hrin hrok (nthP G i) hqi.has), ?_⟩
      conv => whnf
      repeat (first | (refine go_E20 ?_; conv => whnf) | (refine lk_E20 ?_; conv => whnf))
      first | refine ⟨_, _, rfl, sc_E20 (specSetTile_sat r hrin hrok (nthP G i) hqi.has), ?_⟩ | refine .inl ⟨_, _, rfl, sc_E20 (specSetTile_sat r hrin hrok (nthP G i) hqi.has), ?_⟩
      conv => whnf
      repeat (first | (refine go_E20 ?_; conv => whnf) | (refine lk_E20 ?_; conv => whnf))
      first | refine ⟨_, _, rfl, sc_E20 (implDripSum_sat (putR r (nthP G i).1 (nthP G i).2 0) hrw w hwin hOw), ?_⟩ | refine .inl ⟨_, _, rfl, sc_E20 (implDripSum_sat (putR r (nthP G i).1 (nthP G i).2 0) hrw w hwin hOw), ?_⟩
      conv => whnf
      repeat (first | (refine go_E20 ?_; conv => whnf) | (refine lk_E20 ?_; conv => whnf))
      rw [ne]
      conv => whnf
      repeat (first | (refine go_E20 ?_; conv => whnf) | (refine lk_E20 ?_; conv => whnf))
      rw [hqi.wr, ne]
      conv => whnf
      repeat (first | (refine go_E20 ?_; conv => whnf) | (refine lk_E20 ?_; conv => whnf))
      by_cases hT0 : r.t (nthP G i).1 (nthP G i).2 = 0
      · rw [show (r.t (nthP G i).1 (nthP G i).2 == 0) = true by simpa using hT0]
        conv => whnf
        repeat (first | (refine go_E20 ?_; conv => whnf) | (refine lk_E20 ?_; conv => whnf))
        rw [show (svI r w (nthP G i).1 (nthP G i).2 != 0) = false by rw [hqi.zero hT0]; rfl]
        conv => whnf
        repeat (first | (refine go_E20 ?_; conv => whnf) | (refine lk_E20 ?_; conv => whnf))
        rw [show (r.t (nthP G i).1 (nthP G i).2 != 0) = false by rw [hT0]; rfl]
        conv => whnf
        repeat (first | (refine go_E20 ?_; conv => whnf) | (refine lk_E20 ?_; conv => whnf))
        refine ⟨_, eqAgg_place hl hbq (place_load (by simp) hin) rfl, ?_⟩
        cases hat : decide (nthP G i = bP)
        · conv => whnf
          repeat (first | (refine go_E20 ?_; conv => whnf) | (refine lk_E20 ?_; conv => whnf))
          refine ⟨i + 1, ?_, ?_, sim_of (rn := [((5, 0, 0), (5, 0, 0)), ((6, 0, 0), (6, 0, 0)), ((14, 0, 0), (14, 0, 0)), ((97, 0, 0), (97, 0, 0))]) rfl ?_ ?_⟩
          · (dsimp only; omega)
          · exact okt_E20
          · exact hold_E20
          · ((repeat' (first | exact trivial | apply And.intro)) <;> ((first | refine ⟨_, _, rfl, rfl, ?_⟩ ); rfl))
        conv => whnf
        repeat (first | (refine go_E20 ?_; conv => whnf) | (refine lk_E20 ?_; conv => whnf))
        cases hb0 : (bK == 0)
        · conv => whnf
          repeat (first | (refine go_E20 ?_; conv => whnf) | (refine lk_E20 ?_; conv => whnf))
          refine ⟨i + 1, ?_, ?_, sim_of (rn := [((5, 0, 0), (5, 0, 0)), ((6, 0, 0), (6, 0, 0)), ((14, 0, 0), (14, 0, 0)), ((97, 0, 0), (97, 0, 0))]) rfl ?_ ?_⟩
          · (dsimp only; omega)
          · exact okt_E20
          · exact hold_E20
          · ((repeat' (first | exact trivial | apply And.intro)) <;> ((first | refine ⟨_, _, rfl, rfl, ?_⟩ ); rfl))
        conv => whnf
        repeat (first | (refine go_E20 ?_; conv => whnf) | (refine lk_E20 ?_; conv => whnf))
        rw [show (svI r w (nthP G i).1 (nthP G i).2 != bS) = false by rw [hqi.at' (by rw [hbPe]; simpa using hat) (by rw [hbKe]; simpa using hb0), hbSe]; simp]
        conv => whnf
        repeat (first | (refine go_E20 ?_; conv => whnf) | (refine lk_E20 ?_; conv => whnf))
        refine ⟨i + 1, ?_, ?_, sim_of (rn := [((5, 0, 0), (5, 0, 0)), ((6, 0, 0), (6, 0, 0)), ((14, 0, 0), (14, 0, 0)), ((97, 0, 0), (97, 0, 0))]) rfl ?_ ?_⟩
        · (dsimp only; omega)
        · exact okt_E20
        · exact hold_E20
        · ((repeat' (first | exact trivial | apply And.intro)) <;> ((first | refine ⟨_, _, rfl, rfl, ?_⟩ ); rfl))
      · rw [show (r.t (nthP G i).1 (nthP G i).2 == 0) = false by simpa using hT0]
        conv => whnf
        repeat (first | (refine go_E20 ?_; conv => whnf) | (refine lk_E20 ?_; conv => whnf))
        rw [show (r.t (nthP G i).1 (nthP G i).2 != 0) = true by simpa using hT0]
        conv => whnf
        repeat (first | (refine go_E20 ?_; conv => whnf) | (refine lk_E20 ?_; conv => whnf))
        rw [show decide (svI r w (nthP G i).1 (nthP G i).2 > bS) = false by have := hqi.le hT0; simp; omega]
        conv => whnf
        repeat (first | (refine go_E20 ?_; conv => whnf) | (refine lk_E20 ?_; conv => whnf))
        refine ⟨_, eqAgg_place hl hbq (place_load (by simp) hin) rfl, ?_⟩
        cases hat : decide (nthP G i = bP)
        · conv => whnf
          repeat (first | (refine go_E20 ?_; conv => whnf) | (refine lk_E20 ?_; conv => whnf))
          refine ⟨i + 1, ?_, ?_, sim_of (rn := [((5, 0, 0), (5, 0, 0)), ((6, 0, 0), (6, 0, 0)), ((14, 0, 0), (14, 0, 0)), ((97, 0, 0), (97, 0, 0))]) rfl ?_ ?_⟩
          · (dsimp only; omega)
          · exact okt_E20
          · exact hold_E20
          · ((repeat' (first | exact trivial | apply And.intro)) <;> ((first | refine ⟨_, _, rfl, rfl, ?_⟩ ); rfl))
        conv => whnf
        repeat (first | (refine go_E20 ?_; conv => whnf) | (refine lk_E20 ?_; conv => whnf))
        cases hb0 : (bK == 0)
        · conv => whnf
          repeat (first | (refine go_E20 ?_; conv => whnf) | (refine lk_E20 ?_; conv => whnf))
          refine ⟨i + 1, ?_, ?_, sim_of (rn := [((5, 0, 0), (5, 0, 0)), ((6, 0, 0), (6, 0, 0)), ((14, 0, 0), (14, 0, 0)), ((97, 0, 0), (97, 0, 0))]) rfl ?_ ?_⟩
          · (dsimp only; omega)
          · exact okt_E20
          · exact hold_E20
          · ((repeat' (first | exact trivial | apply And.intro)) <;> ((first | refine ⟨_, _, rfl, rfl, ?_⟩ ); rfl))
        conv => whnf
        repeat (first | (refine go_E20 ?_; conv => whnf) | (refine lk_E20 ?_; conv => whnf))
        rw [show (svI r w (nthP G i).1 (nthP G i).2 != bS) = false by rw [hqi.at' (by rw [hbPe]; simpa using hat) (by rw [hbKe]; simpa using hb0), hbSe]; simp]
        conv => whnf
        repeat (first | (refine go_E20 ?_; conv => whnf) | (refine lk_E20 ?_; conv => whnf))
        refine ⟨i + 1, ?_, ?_, sim_of (rn := [((5, 0, 0), (5, 0, 0)), ((6, 0, 0), (6, 0, 0)), ((14, 0, 0), (14, 0, 0)), ((97, 0, 0), (97, 0, 0))]) rfl ?_ ?_⟩
        · (dsimp only; omega)
        · exact okt_E20
        · exact hold_E20
        · ((repeat' (first | exact trivial | apply And.intro)) <;> ((first | refine ⟨_, _, rfl, rfl, ?_⟩ ); rfl))
    have hiG : i = G.length := by simp at hlp; omega
    subst hiG
    conv => whnf
    repeat (first | (refine go_E20 ?_; conv => whnf) | (refine lk_E20 ?_; conv => whnf))
    first | refine ⟨_, _, rfl, sc_E20 (hat0s), ?_⟩ | refine .inl ⟨_, _, rfl, sc_E20 (hat0s), ?_⟩
    conv => whnf
    repeat (first | (refine go_E20 ?_; conv => whnf) | (refine lk_E20 ?_; conv => whnf))
    first | refine ⟨_, _, rfl, sc_E20 (sM), ?_⟩ | refine .inl ⟨_, _, rfl, sc_E20 (sM), ?_⟩
    conv => whnf
    repeat (first | (refine go_E20 ?_; conv => whnf) | (refine lk_E20 ?_; conv => whnf))
    first | refine ⟨_, _, rfl, sc_E20 (sM'), ?_⟩ | refine .inl ⟨_, _, rfl, sc_E20 (sM'), ?_⟩
    conv => whnf
    repeat (first | (refine go_E20 ?_; conv => whnf) | (refine lk_E20 ?_; conv => whnf))
    first | refine ⟨_, _, rfl, sc_E20 (samePlaces_sat (mdL r w n) (by omega) hmin false false), ?_⟩ | refine .inl ⟨_, _, rfl, sc_E20 (samePlaces_sat (mdL r w n) (by omega) hmin false false), ?_⟩
    conv => whnf
    repeat (first | (refine go_E20 ?_; conv => whnf) | (refine lk_E20 ?_; conv => whnf))
    rw [show (!(((mdL r w n).length : Int) == 0) == decide (dsI r w ≤ bound)) = false by
      rw [show (((mdL r w n).length : Int) == 0) = decide (dsI r w ≤ bound) by
        rw [Bool.eq_iff_iff]; simp only [beq_iff_eq, decide_eq_true_eq]; rw [← hn.zero]; omega]
      simp]
    conv => whnf
    repeat (first | (refine go_E20 ?_; conv => whnf) | (refine lk_E20 ?_; conv => whnf))
    refine loop_rule (α := Nat) (fun k => [(1, u8D false ys), (5, .ptr (5, 0, 0) 0), (6, .ptr (6, 0, 0) 0), (9, .v (.int .i64 (dsI r w))), (31, .v (.int .i64 bound)), (34, .slc true 2 (274, 0, 0) 0 (mdL r w n).length), (36, .ptr (36, 0, 0) 0), (37, .v (.int .i64 k))]) (fun k => [((5, 0, 0), roofD r), ((6, 0, 0), raiD w), ((36, 0, 0), roofD (mdR r w k)), ((274, 0, 0), .v (.agg ⟨placesC (mdL r w n)⟩))]) (fun k => k ≤ n) (fun k => n - k) (0) ?_ (sim_of (rn := [((5, 0, 0), (5, 0, 0)), ((6, 0, 0), (6, 0, 0)), ((36, 0, 0), (36, 1, 0)), ((274, 0, 0), (274, 1, 0))]) rfl ?_ ?_) ?_
    · exact okt_E20
    · exact hold_E20
    · ((repeat' (first | exact trivial | apply And.intro)) <;> ((first | refine ⟨_, _, rfl, rfl, ?_⟩ ); first | rfl | (exact vsplT1 (by simp) (by simp))))
    intro k hk
    conv => whnf
    repeat (first | (refine go_E20 ?_; conv => whnf) | (refine lk_E20 ?_; conv => whnf))
    rw [hml]
    cases hkl : decide ((k : Int) < (n : Int))
    case true =>
      have hkn : k < n := by simpa using hkl
      have hst := mdStep hrin hO hn hkn
      have hkm : k < (mdL r w n).length := by omega
      have sDk := implDripSum_sat (mdR r w k) hst.rin w hwin hst.ok
      have sBk := implBestSave_sat (mdR r w k) hst.rin w hwin hst.ok
      unfold bqV at sBk
      rw [hst.bp, hst.bk] at sBk
      have sSk := specSetTile_sat (mdR r w k) hst.rin (okN_R hst.ok) (nthP (mdL r w n) k) hst.has
      rw [hst.next] at sSk
      conv => whnf
      repeat (first | (refine go_E20 ?_; conv => whnf) | (refine lk_E20 ?_; conv => whnf))
      first | refine ⟨_, _, rfl, sc_E20 (sDk), ?_⟩ | refine .inl ⟨_, _, rfl, sc_E20 (sDk), ?_⟩
      conv => whnf
      repeat (first | (refine go_E20 ?_; conv => whnf) | (refine lk_E20 ?_; conv => whnf))
      first | refine ⟨_, _, rfl, sc_E20 (sBk), ?_⟩ | refine .inl ⟨_, _, rfl, sc_E20 (sBk), ?_⟩
      conv => whnf
      repeat (first | (refine go_E20 ?_; conv => whnf) | (refine lk_E20 ?_; conv => whnf))
      rw [show decide (dsI (mdR r w k) w ≤ bound) = false by simpa using hst.gt]
      conv => whnf
      repeat (first | (refine go_E20 ?_; conv => whnf) | (refine lk_E20 ?_; conv => whnf))
      refine ⟨_, eqAgg_place hst.lt hst.lt rfl (place_load (by simp) hkm), ?_⟩
      conv => whnf
      repeat (first | (refine go_E20 ?_; conv => whnf) | (refine lk_E20 ?_; conv => whnf))
      rw [show decide (nthP (mdL r w n) k = nthP (mdL r w n) k) = true by simp]
      conv => whnf
      repeat (first | (refine go_E20 ?_; conv => whnf) | (refine lk_E20 ?_; conv => whnf))
      first | refine ⟨_, _, rfl, sc_E20 (sSk), ?_⟩ | refine .inl ⟨_, _, rfl, sc_E20 (sSk), ?_⟩
      conv => whnf
      repeat (first | (refine go_E20 ?_; conv => whnf) | (refine lk_E20 ?_; conv => whnf))
      refine ⟨_, eqAgg_roof2 (b := false) (mdR_in hrin w (k + 1)) hst.rin (tds (n := 67) (by simp) (by simp)) (take_full0 (n := 67) (by simp)) (by simpa using hst.ne), ?_⟩
      conv => whnf
      repeat (first | (refine go_E20 ?_; conv => whnf) | (refine lk_E20 ?_; conv => whnf))
      refine ⟨k + 1, ?_, ?_, sim_of (rn := [((5, 0, 0), (5, 0, 0)), ((6, 0, 0), (6, 0, 0)), ((36, 0, 0), (36, 0, 0)), ((274, 0, 0), (274, 0, 0))]) rfl ?_ ?_⟩
      · (dsimp only; omega)
      · exact okt_E20
      · exact hold_E20
      · ((repeat' (first | exact trivial | apply And.intro)) <;> ((first | refine ⟨_, _, rfl, rfl, ?_⟩ ); first | rfl | (first | exact vsplT2 (by simp) (by simp) (by simp))))
    have hkn : k = n := by simp at hkl; omega
    subst hkn
    have sDn := implDripSum_sat (mdR r w k) (mdR_in hrin w k) w hwin (okN_md hO k)
    have hend := hn.end'
    have sF1 := implPailsFor_sat r hrin w hwin hO size (by omega)
    have sF2 := specPailsFor_sat r hrin w hwin hO size (by omega)
    have sF3 := implFillTimes_sat r hrin w hwin hO size (by omega)
    have sF4 := specCellDrips_sat r hrin w hwin hO
    obtain ⟨p1, p2, p3, p4⟩ := plI_facts hb.1 hw1 (s := size) (by omega)
    have hcn := cN_le hb.1
    have hcl1 := qL_len (ftI r w size) (cN r)
    have hcl2 := qL_len (clI r w) (cN r)
    have hps : plI r w size * size ≤ 136000 * 30 := Int.mul_le_mul p4 (by omega) (by omega) (by omega)
    have hps0 : 0 ≤ plI r w size * size := Int.mul_nonneg p3 (by omega)
    have hwm : IntKind.i64.wrap (plI r w size * size) = plI r w size * size := w64 (by omega) (by omega)
    have hz : ((plI r w size == 0) != (dsI r w == 0)) = false := by
      rw [show (plI r w size == 0) = (dsI r w == 0) by rw [Bool.eq_iff_iff]; simpa using p2]; simp
    have hz2 : (!((plI r w size == 0) == (dsI r w == 0))) = false := hz
    generalize plI r w size = pl at *
    conv => whnf
    repeat (first | (refine go_E20 ?_; conv => whnf) | (refine lk_E20 ?_; conv => whnf))
    first | refine ⟨_, _, rfl, sc_E20 (sDn), ?_⟩ | refine .inl ⟨_, _, rfl, sc_E20 (sDn), ?_⟩
    conv => whnf
    repeat (first | (refine go_E20 ?_; conv => whnf) | (refine lk_E20 ?_; conv => whnf))
    first | refine ⟨_, _, rfl, sc_E20 (hat1s), ?_⟩ | refine .inl ⟨_, _, rfl, sc_E20 (hat1s), ?_⟩
    conv => whnf
    repeat (first | (refine go_E20 ?_; conv => whnf) | (refine lk_E20 ?_; conv => whnf))
    rw [hwsz]
    conv => whnf
    repeat (first | (refine go_E20 ?_; conv => whnf) | (refine lk_E20 ?_; conv => whnf))
    first | refine ⟨_, _, rfl, sc_E20 (sF1), ?_⟩ | refine .inl ⟨_, _, rfl, sc_E20 (sF1), ?_⟩
    conv => whnf
    repeat (first | (refine go_E20 ?_; conv => whnf) | (refine lk_E20 ?_; conv => whnf))
    first | refine ⟨_, _, rfl, sc_E20 (sF2), ?_⟩ | refine .inl ⟨_, _, rfl, sc_E20 (sF2), ?_⟩
    conv => whnf
    repeat (first | (refine go_E20 ?_; conv => whnf) | (refine lk_E20 ?_; conv => whnf))
    first | refine ⟨_, _, rfl, sc_E20 (sF3), ?_⟩ | refine .inl ⟨_, _, rfl, sc_E20 (sF3), ?_⟩
    conv => whnf
    repeat (first | (refine go_E20 ?_; conv => whnf) | (refine lk_E20 ?_; conv => whnf))
    first | refine ⟨_, _, rfl, sc_E20 (sF4), ?_⟩ | refine .inl ⟨_, _, rfl, sc_E20 (sF4), ?_⟩
    conv => whnf
    repeat (first | (refine go_E20 ?_; conv => whnf) | (refine lk_E20 ?_; conv => whnf))
    simp only [show decide (dsI (mdR r w k) w > bound) = false by simpa using hend]
    conv => whnf
    repeat (first | (refine go_E20 ?_; conv => whnf) | (refine lk_E20 ?_; conv => whnf))
    simp only [ne]
    conv => whnf
    repeat (first | (refine go_E20 ?_; conv => whnf) | (refine lk_E20 ?_; conv => whnf))
    simp only [hwm, show decide (pl * size < dsI r w) = false by simp; omega]
    conv => whnf
    repeat (first | (refine go_E20 ?_; conv => whnf) | (refine lk_E20 ?_; conv => whnf))
    simp only [hcl1, hcl2, ne]
    conv => whnf
    repeat (first | (refine go_E20 ?_; conv => whnf) | (refine lk_E20 ?_; conv => whnf))
    simp only [hz, hz2]
    conv => whnf
    repeat (first | (refine go_E20 ?_; conv => whnf) | (refine lk_E20 ?_; conv => whnf))
    refine loop_rule (α := Nat) (fun c => [(47, .v (.int .i64 size)), (52, .slc true 1 (382, 0, 0) 0 (cN r)), (54, .slc true 1 (388, 0, 0) 0 (cN r)), (56, .v (.int .i64 c))]) (fun c => [((382, 0, 0), .v (.agg ⟨intsC (qL (ftI r w size) (cN r))⟩)), ((388, 0, 0), .v (.agg ⟨intsC (qL (clI r w) (cN r))⟩))]) (fun c => c ≤ cN r) (fun c => cN r - c) (0) ?_ (sim_of (rn := [((382, 0, 0), (382, 1, 0)), ((388, 0, 0), (388, 1, 0))]) rfl ?_ ?_) ?_
    · exact okt_E20
    · exact hold_E20
    · ((repeat' (first | exact trivial | apply And.intro)) <;> ((first | refine ⟨_, _, rfl, rfl, ?_⟩ ); rfl))
    intro c hc
    conv => whnf
    repeat (first | (refine go_E20 ?_; conv => whnf) | (refine lk_E20 ?_; conv => whnf))
    cases hcl : decide ((c : Int) < ((cN r : Nat) : Int))
    · conv => whnf
      repeat (first | (refine go_E20 ?_; conv => whnf) | (refine lk_E20 ?_; conv => whnf))
      first | refine ⟨rfl, _, rfl, ?_⟩ | refine ⟨_, rfl, ?_⟩
      rfl
    have hcc : c < cN r := by simpa using hcl
    obtain ⟨f1, f2, f3, f4⟩ := ftI_facts (r := r) hw1 (s := size) (by omega) (c := c) (by omega)
    have f5 := clI_in r hw1 (c := c) (by omega)
    have q1 := qL_ix (q := ftI r w size) hcc
    have q2 := qL_ix (q := clI r w) hcc
    have hzz : (!((ftI r w size c == 0) == (clI r w c == 0))) = false := by
      rw [show (ftI r w size c == 0) = (clI r w c == 0) by rw [Bool.eq_iff_iff]; simpa using f1]; simp
    conv => whnf
    repeat (first | (refine go_E20 ?_; conv => whnf) | (refine lk_E20 ?_; conv => whnf))
    rw [q1, q2, hzz]
    conv => whnf
    repeat (first | (refine go_E20 ?_; conv => whnf) | (refine lk_E20 ?_; conv => whnf))
    rw [q1]
    cases hpos : decide (ftI r w size c > 0)
    · conv => whnf
      repeat (first | (refine go_E20 ?_; conv => whnf) | (refine lk_E20 ?_; conv => whnf))
      refine ⟨c + 1, ?_, ?_, sim_of (rn := [((382, 0, 0), (382, 0, 0)), ((388, 0, 0), (388, 0, 0))]) rfl ?_ ?_⟩
      · (dsimp only; omega)
      · exact okt_E20
      · exact hold_E20
      · ((repeat' (first | exact trivial | apply And.intro)) <;> ((first | refine ⟨_, _, rfl, rfl, ?_⟩ ); rfl))
    obtain ⟨g1, g2⟩ := f4 (by simpa using hpos)
    have g0 : ftI r w size c > 0 := by simpa using hpos
    have g3 : ftI r w size c * clI r w c ≤ 10000 * 8000 := Int.mul_le_mul f3 f5.2 f5.1 (by omega)
    have g4 : (ftI r w size c - 1) * clI r w c ≤ 10000 * 8000 := Int.mul_le_mul (by omega) f5.2 f5.1 (by omega)
    have g5 : 0 ≤ ftI r w size c * clI r w c := Int.mul_nonneg f2 f5.1
    have g6 : 0 ≤ (ftI r w size c - 1) * clI r w c := Int.mul_nonneg (by omega) f5.1
    have e1 : IntKind.i64.wrap (ftI r w size c * clI r w c) = ftI r w size c * clI r w c := w64 (by omega) (by omega)
    have e2 : IntKind.i64.wrap (ftI r w size c - 1) = ftI r w size c - 1 := w64 (by omega) (by omega)
    have e3 : IntKind.i64.wrap ((ftI r w size c - 1) * clI r w c) = (ftI r w size c - 1) * clI r w c := w64 (by omega) (by omega)
    conv => whnf
    repeat (first | (refine go_E20 ?_; conv => whnf) | (refine lk_E20 ?_; conv => whnf))
    rw [q1, q2, e1, show decide (ftI r w size c * clI r w c < size) = false by simp; omega]
    conv => whnf
    repeat (first | (refine go_E20 ?_; conv => whnf) | (refine lk_E20 ?_; conv => whnf))
    rw [q1, q2, e2, e3, show decide ((ftI r w size c - 1) * clI r w c ≥ size) = false by simp; omega]
    conv => whnf
    repeat (first | (refine go_E20 ?_; conv => whnf) | (refine lk_E20 ?_; conv => whnf))
    refine ⟨c + 1, ?_, ?_, sim_of (rn := [((382, 0, 0), (382, 0, 0)), ((388, 0, 0), (388, 0, 0))]) rfl ?_ ?_⟩
    · (dsimp only; omega)
    · exact okt_E20
    · exact hold_E20
    · ((repeat' (first | exact trivial | apply And.intro)) <;> ((first | refine ⟨_, _, rfl, rfl, ?_⟩ ); rfl))
end Go.Proofs.Ytecjkbgepbefcaa
