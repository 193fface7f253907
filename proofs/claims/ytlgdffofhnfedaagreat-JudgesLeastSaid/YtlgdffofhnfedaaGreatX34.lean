/- is one true?. -/
import Derived.Test.YtlgdffofhnfedaaGreatX33
set_option linter.unusedVariables false
set_option linter.unusedSimpArgs false
set_option maxRecDepth 10000
set_option maxHeartbeats 2000000
namespace Go.Sl
open Go.RowKit
open Go.Proofs
def rOne : World → Value → Value → Prop := fun _ u x => u = x ∧ x.oneCell' = true
instance : Abides rOne := ⟨fun _ h => h⟩
instance : OneC rOne := ⟨fun h => by rw [h.1]; exact h.2⟩
theorem els_vals {w : World} {us xs : List Value} (h : Els rOne w us xs) : us = xs := by
 apply List.ext_getElem?
 intro i
 by_cases hi : i < us.length
 · have hx : i < xs.length := by rw [← h.1]; exact hi
   rw [List.getElem?_eq_getElem hi, List.getElem?_eq_getElem hx, (h.2 i _ _ (List.getElem?_eq_getElem hi) (List.getElem?_eq_getElem hx)).1]
 · rw [List.getElem?_eq_none (by omega), List.getElem?_eq_none (by rw [← h.1]; omega)]
theorem RdS.vals {α : Type} {r : World → Value → α → Prop} [OneC r] {w : World} {v : Value} {xs : List α} (h : RdS r w v xs) : ∃ us, Els r w us xs ∧ RdS rOne w v us := by
 obtain ⟨us, he, A, c, rfl, h1, h2, h3⟩ := h.els
 refine ⟨us, he, A, c, by rw [he.1], by rw [he.1]; exact h1, h2, fun i x hx => ?_⟩
 obtain ⟨a, e, hc⟩ := h3 i x hx
 have h1 := he.one
 rw [List.all_eq_true] at h1
 exact ⟨a, x, e, hc, rfl, h1 x (mem_of_get hx)⟩
theorem Loc.rdE {α : Type} {r : World → Value → α → Prop} {w0 w : World} {v : Value} {e n : Nat} {us : List Value} {xs : List α} {L : List HP} (h : Loc w0 w (row e 1 v n us :: L)) (he : Els r w us xs) : RdS r w v xs := by
 obtain ⟨S, k1, S1, S2, k2, k3, k5, k6⟩ := h.sep
 exact row_rdE k5 he
theorem otherM_ok {m : Mk} {i : Nat} {bid : List Int} (hok : okMk m) (hi : i < m.bids.length) : okMk (otherM m i bid) ↔ ¬ (0 < bid.length ∧ ¬ okVec bid m.res.length) := other_ok hok hi
theorem jTrue_ {w0 : World} {v u : Value} {m : Mk} {bi : Int} {bid : List Int} (hm : RdM w0 v m) (hb : RdI w0 u bid) (hbi : bi ≤ 9223372036854775807) :
   Ret Tryz.prog 12 [v, .int .i64 bi, u] w0 (TruePo m bi bid w0) := by
 refine ret_of_C Tryz.func12 rfl rfl rfl ?_
 have H := Loc.refl w0
 have hm0 := hm
 obtain ⟨a, b, c, rfl, ra, rb, rc⟩ := hm
 obtain ⟨us, hus, hval⟩ := rb.vals
 have hul := hus.1
 obtain ⟨A1, c1, rfl, hA1, hA2⟩ := ra.len
 obtain ⟨A2, c2, rfl, hB1, hB2⟩ := rb.len
 obtain ⟨A3, c3, rfl, hC1, hC2⟩ := rc.len
 obtain ⟨A4, c4, rfl, hD1, hD2⟩ := hb.len
 refine C_seq (C_region rfl (R_o rfl (E_box (cs := [.slice A1 m.res.length c1, .slice A2 m.bids.length c2, .slice A3 m.ord.length c3]) rfl H ?_)))
 clear H; intro w b3 H
 refine R_o rfl (E_assign (R_o rfl (E_assign (R_nil (C_seq (C_seq (C_region rfl (R_o rfl (E_loadw H rfl (by rfl) ?_)))))))))
 refine R_o rfl (E_call rfl (Check_ (Abides.below H.below hm0)) ?_)
 rintro _ w1 ⟨rfl, hb⟩
 replace H := H.call0 hb; clear hb
 refine R_o rfl (E_not rfl ?_)
 refine R_o rfl (E_move (R_part (t := 13) rfl (fun h13 => ?_) (fun h13 => ?_)))
 ·
  refine R_p rfl rfl rfl ?_
  refine R_p rfl rfl rfl ?_
  refine R_o rfl (E_pick rfl ?_)
  refine R_o rfl (E_move (R_p rfl rfl rfl ?_))
  refine R_p rfl rfl rfl ?_
  refine R_p rfl rfl rfl ?_
  refine R_p rfl rfl rfl ?_
  refine R_p rfl rfl rfl ?_
  refine R_o rfl (E_pick rfl ?_)
  refine R_o rfl (E_move (R_p rfl rfl rfl ?_))
  refine R_p rfl rfl rfl ?_
  refine R_p rfl rfl rfl ?_
  refine R_p rfl rfl rfl ?_
  refine R_p rfl rfl rfl ?_
  refine R_p rfl rfl rfl ?_
  refine R_p rfl rfl rfl ?_
  refine R_o rfl (E_pick rfl ?_)
  refine R_nil (C_true (t := 32) rfl ?_)
  refine C_seq (C_region rfl (R_o rfl (E_assign (R_o rfl (E_assign (R_nil (C_ret ?_)))))))
  with_reducible repeat (first | refine thn_ret ?_ | refine inB_ret ?_ | refine noG_ret ?_ | refine jmp_ret ?_)
  first
    | exact ret_list (rs := [.tmp 6, .tmp 7]) (vs := [.bool false, .int .i64 1]) rfl rfl ⟨rfl, rfl, trivial⟩ (.inr ⟨fun h => h13 h.1, rfl, H.below⟩)
    | exact ret_list (rs := [.tmp 6, .tmp 7]) (vs := [.bool false, .int .i64 1]) rfl rfl ⟨rfl, rfl, trivial⟩ (.inr ⟨fun h => by have := h.2.1; omega, rfl, H.below⟩)
    | exact ret_list (rs := [.tmp 6, .tmp 7]) (vs := [.bool false, .int .i64 1]) rfl rfl ⟨rfl, rfl, trivial⟩ (.inr ⟨fun h => by have := h.2.2.1; omega, rfl, H.below⟩)
    | exact ret_list (rs := [.tmp 6, .tmp 7]) (vs := [.bool false, .int .i64 1]) rfl rfl ⟨rfl, rfl, trivial⟩ (.inr ⟨fun h => h.2.2.2.1 (by rw [Int.toNat_natCast, hgx]; exact List.eq_nil_of_length_eq_zero (by omega)), rfl, H.below⟩)
    | exact ret_list (rs := [.tmp 6, .tmp 7]) (vs := [.bool false, .int .i64 1]) rfl rfl ⟨rfl, rfl, trivial⟩ (.inr ⟨fun h => h45 ((other_ok hok (by omega)).2 h.2.2.2.2), rfl, H.below⟩)
    | exact ret_list (rs := [.tmp 6, .tmp 7]) (vs := [.bool (decide (hasV (otherM m i bid) i x ≤ hasV m i x)), .int .i64 0]) rfl rfl ⟨rfl, rfl, trivial⟩ (.inl ⟨⟨hok, by omega, by omega, by rw [Int.toNat_natCast, hgx]; exact hxn, (other_ok hok (by omega)).1 hok2⟩, _, rfl, by rw [decide_eq_true_iff]; unfold trueV; rw [Int.toNat_natCast, hgx]; exact ⟨fun h => ⟨h56, h⟩, fun h => h.2⟩, H.below⟩)
    | exact ret_list (rs := [.tmp 6, .tmp 7]) (vs := [.bool false, .int .i64 0]) rfl rfl ⟨rfl, rfl, trivial⟩ (.inl ⟨⟨hok, by omega, by omega, by rw [Int.toNat_natCast, hgx]; exact hxn, (other_ok hok (by omega)).1 hok2⟩, _, rfl, by unfold trueV; rw [Int.toNat_natCast, hgx]; exact ⟨(fun h => by cases h), fun h => absurd h.1 h56⟩, H.below⟩)
    | skip
 ·
  have hok := Decidable.of_not_not h13
  have hn2 := hok.2.1.2
  refine R_w rfl rfl rfl (E_move ?_)
  refine R_w rfl rfl rfl (E_lss rfl rfl ?_)
  refine R_o rfl (E_pick rfl ?_)
  refine R_o rfl (E_move (R_part (t := 17) rfl (fun h17 => ?_) (fun h17 => ?_)))
  ·
   refine R_p rfl rfl rfl ?_
   refine R_p rfl rfl rfl ?_
   refine R_p rfl rfl rfl ?_
   refine R_p rfl rfl rfl ?_
   refine R_p rfl rfl rfl ?_
   refine R_o rfl (E_pick rfl ?_)
   refine R_o rfl (E_move (R_p rfl rfl rfl ?_))
   refine R_p rfl rfl rfl ?_
   refine R_p rfl rfl rfl ?_
   refine R_p rfl rfl rfl ?_
   refine R_p rfl rfl rfl ?_
   refine R_p rfl rfl rfl ?_
   refine R_p rfl rfl rfl ?_
   refine R_o rfl (E_pick rfl ?_)
   refine R_nil (C_true (t := 32) rfl ?_)
   refine C_seq (C_region rfl (R_o rfl (E_assign (R_o rfl (E_assign (R_nil (C_ret ?_)))))))
   with_reducible repeat (first | refine thn_ret ?_ | refine inB_ret ?_ | refine noG_ret ?_ | refine jmp_ret ?_)
   first
     | exact ret_list (rs := [.tmp 6, .tmp 7]) (vs := [.bool false, .int .i64 1]) rfl rfl ⟨rfl, rfl, trivial⟩ (.inr ⟨fun h => h13 h.1, rfl, H.below⟩)
     | exact ret_list (rs := [.tmp 6, .tmp 7]) (vs := [.bool false, .int .i64 1]) rfl rfl ⟨rfl, rfl, trivial⟩ (.inr ⟨fun h => by have := h.2.1; omega, rfl, H.below⟩)
     | exact ret_list (rs := [.tmp 6, .tmp 7]) (vs := [.bool false, .int .i64 1]) rfl rfl ⟨rfl, rfl, trivial⟩ (.inr ⟨fun h => by have := h.2.2.1; omega, rfl, H.below⟩)
     | exact ret_list (rs := [.tmp 6, .tmp 7]) (vs := [.bool false, .int .i64 1]) rfl rfl ⟨rfl, rfl, trivial⟩ (.inr ⟨fun h => h.2.2.2.1 (by rw [Int.toNat_natCast, hgx]; exact List.eq_nil_of_length_eq_zero (by omega)), rfl, H.below⟩)
     | exact ret_list (rs := [.tmp 6, .tmp 7]) (vs := [.bool false, .int .i64 1]) rfl rfl ⟨rfl, rfl, trivial⟩ (.inr ⟨fun h => h45 ((other_ok hok (by omega)).2 h.2.2.2.2), rfl, H.below⟩)
     | exact ret_list (rs := [.tmp 6, .tmp 7]) (vs := [.bool (decide (hasV (otherM m i bid) i x ≤ hasV m i x)), .int .i64 0]) rfl rfl ⟨rfl, rfl, trivial⟩ (.inl ⟨⟨hok, by omega, by omega, by rw [Int.toNat_natCast, hgx]; exact hxn, (other_ok hok (by omega)).1 hok2⟩, _, rfl, by rw [decide_eq_true_iff]; unfold trueV; rw [Int.toNat_natCast, hgx]; exact ⟨fun h => ⟨h56, h⟩, fun h => h.2⟩, H.below⟩)
     | exact ret_list (rs := [.tmp 6, .tmp 7]) (vs := [.bool false, .int .i64 0]) rfl rfl ⟨rfl, rfl, trivial⟩ (.inl ⟨⟨hok, by omega, by omega, by rw [Int.toNat_natCast, hgx]; exact hxn, (other_ok hok (by omega)).1 hok2⟩, _, rfl, by unfold trueV; rw [Int.toNat_natCast, hgx]; exact ⟨(fun h => by cases h), fun h => absurd h.1 h56⟩, H.below⟩)
     | skip
  ·
   refine R_w rfl rfl rfl (E_move ?_)
   refine R_w rfl rfl rfl (E_fieldAddr rfl ?_)
   refine R_w rfl rfl rfl (E_load H rfl rfl ?_)
   refine R_w rfl rfl rfl (E_len rfl ?_)
   refine R_w rfl rfl rfl (E_geq rfl rfl ?_)
   refine R_o rfl (E_pick rfl ?_)
   refine R_o rfl (E_move (R_part (t := 24) rfl (fun h24 => ?_) (fun h24 => ?_)))
   ·
    refine R_p rfl rfl rfl ?_
    refine R_p rfl rfl rfl ?_
    refine R_p rfl rfl rfl ?_
    refine R_p rfl rfl rfl ?_
    refine R_p rfl rfl rfl ?_
    refine R_p rfl rfl rfl ?_
    refine R_p rfl rfl rfl ?_
    refine R_o rfl (E_pick rfl ?_)
    refine R_nil (C_true (t := 32) rfl ?_)
    refine C_seq (C_region rfl (R_o rfl (E_assign (R_o rfl (E_assign (R_nil (C_ret ?_)))))))
    with_reducible repeat (first | refine thn_ret ?_ | refine inB_ret ?_ | refine noG_ret ?_ | refine jmp_ret ?_)
    first
      | exact ret_list (rs := [.tmp 6, .tmp 7]) (vs := [.bool false, .int .i64 1]) rfl rfl ⟨rfl, rfl, trivial⟩ (.inr ⟨fun h => h13 h.1, rfl, H.below⟩)
      | exact ret_list (rs := [.tmp 6, .tmp 7]) (vs := [.bool false, .int .i64 1]) rfl rfl ⟨rfl, rfl, trivial⟩ (.inr ⟨fun h => by have := h.2.1; omega, rfl, H.below⟩)
      | exact ret_list (rs := [.tmp 6, .tmp 7]) (vs := [.bool false, .int .i64 1]) rfl rfl ⟨rfl, rfl, trivial⟩ (.inr ⟨fun h => by have := h.2.2.1; omega, rfl, H.below⟩)
      | exact ret_list (rs := [.tmp 6, .tmp 7]) (vs := [.bool false, .int .i64 1]) rfl rfl ⟨rfl, rfl, trivial⟩ (.inr ⟨fun h => h.2.2.2.1 (by rw [Int.toNat_natCast, hgx]; exact List.eq_nil_of_length_eq_zero (by omega)), rfl, H.below⟩)
      | exact ret_list (rs := [.tmp 6, .tmp 7]) (vs := [.bool false, .int .i64 1]) rfl rfl ⟨rfl, rfl, trivial⟩ (.inr ⟨fun h => h45 ((other_ok hok (by omega)).2 h.2.2.2.2), rfl, H.below⟩)
      | exact ret_list (rs := [.tmp 6, .tmp 7]) (vs := [.bool (decide (hasV (otherM m i bid) i x ≤ hasV m i x)), .int .i64 0]) rfl rfl ⟨rfl, rfl, trivial⟩ (.inl ⟨⟨hok, by omega, by omega, by rw [Int.toNat_natCast, hgx]; exact hxn, (other_ok hok (by omega)).1 hok2⟩, _, rfl, by rw [decide_eq_true_iff]; unfold trueV; rw [Int.toNat_natCast, hgx]; exact ⟨fun h => ⟨h56, h⟩, fun h => h.2⟩, H.below⟩)
      | exact ret_list (rs := [.tmp 6, .tmp 7]) (vs := [.bool false, .int .i64 0]) rfl rfl ⟨rfl, rfl, trivial⟩ (.inl ⟨⟨hok, by omega, by omega, by rw [Int.toNat_natCast, hgx]; exact hxn, (other_ok hok (by omega)).1 hok2⟩, _, rfl, by unfold trueV; rw [Int.toNat_natCast, hgx]; exact ⟨(fun h => by cases h), fun h => absurd h.1 h56⟩, H.below⟩)
      | skip
   ·
    obtain ⟨i, rfl⟩ : ∃ i : Nat, bi = i := ⟨bi.toNat, by omega⟩
    obtain ⟨x, hx⟩ := get_of (xs := m.bids) (k := i) (by omega)
    obtain ⟨ux, hca, hu⟩ := rb.at hx
    obtain ⟨Au, cu, rfl, hu1, hu2⟩ := hu.len
    have hgx : m.bids.getD i [] = x := getD_of hx
    refine R_w rfl rfl rfl (E_fieldAddr rfl ?_)
    refine R_w rfl rfl rfl (E_load H rfl rfl ?_)
    refine R_w rfl rfl rfl (E_move ?_)
    refine R_w rfl rfl rfl (E_idxr rb rfl rfl (by omega) (by omega) ?_)
    refine R_w rfl rfl rfl (E_loadc hca H rfl ?_)
    refine R_w rfl rfl rfl (E_len rfl ?_)
    refine R_w rfl rfl rfl (E_eql rfl rfl ?_)
    refine R_o rfl (E_pick rfl ?_)
    refine R_nil (C_cond (t := 32) rfl (fun h32 => ?_) (fun h32 => ?_))
    ·
     refine C_seq (C_region rfl (R_o rfl (E_assign (R_o rfl (E_assign (R_nil (C_ret ?_)))))))
     with_reducible repeat (first | refine thn_ret ?_ | refine inB_ret ?_ | refine noG_ret ?_ | refine jmp_ret ?_)
     first
       | exact ret_list (rs := [.tmp 6, .tmp 7]) (vs := [.bool false, .int .i64 1]) rfl rfl ⟨rfl, rfl, trivial⟩ (.inr ⟨fun h => h13 h.1, rfl, H.below⟩)
       | exact ret_list (rs := [.tmp 6, .tmp 7]) (vs := [.bool false, .int .i64 1]) rfl rfl ⟨rfl, rfl, trivial⟩ (.inr ⟨fun h => by have := h.2.1; omega, rfl, H.below⟩)
       | exact ret_list (rs := [.tmp 6, .tmp 7]) (vs := [.bool false, .int .i64 1]) rfl rfl ⟨rfl, rfl, trivial⟩ (.inr ⟨fun h => by have := h.2.2.1; omega, rfl, H.below⟩)
       | exact ret_list (rs := [.tmp 6, .tmp 7]) (vs := [.bool false, .int .i64 1]) rfl rfl ⟨rfl, rfl, trivial⟩ (.inr ⟨fun h => h.2.2.2.1 (by rw [Int.toNat_natCast, hgx]; exact List.eq_nil_of_length_eq_zero (by omega)), rfl, H.below⟩)
       | exact ret_list (rs := [.tmp 6, .tmp 7]) (vs := [.bool false, .int .i64 1]) rfl rfl ⟨rfl, rfl, trivial⟩ (.inr ⟨fun h => h45 ((other_ok hok (by omega)).2 h.2.2.2.2), rfl, H.below⟩)
       | exact ret_list (rs := [.tmp 6, .tmp 7]) (vs := [.bool (decide (hasV (otherM m i bid) i x ≤ hasV m i x)), .int .i64 0]) rfl rfl ⟨rfl, rfl, trivial⟩ (.inl ⟨⟨hok, by omega, by omega, by rw [Int.toNat_natCast, hgx]; exact hxn, (other_ok hok (by omega)).1 hok2⟩, _, rfl, by rw [decide_eq_true_iff]; unfold trueV; rw [Int.toNat_natCast, hgx]; exact ⟨fun h => ⟨h56, h⟩, fun h => h.2⟩, H.below⟩)
       | exact ret_list (rs := [.tmp 6, .tmp 7]) (vs := [.bool false, .int .i64 0]) rfl rfl ⟨rfl, rfl, trivial⟩ (.inl ⟨⟨hok, by omega, by omega, by rw [Int.toNat_natCast, hgx]; exact hxn, (other_ok hok (by omega)).1 hok2⟩, _, rfl, by unfold trueV; rw [Int.toNat_natCast, hgx]; exact ⟨(fun h => by cases h), fun h => absurd h.1 h56⟩, H.below⟩)
       | skip
    ·
     have hxn : x ≠ [] := fun e => h32 (by rw [e]; rfl)
     have hbb := bid_bound hok (i := i) (by omega) (by rw [hgx]; exact hxn)
     rw [hgx] at hbb
     refine C_skip (C_seq (C_region rfl (R_o rfl (E_loadw H rfl (by rfl) ?_))))
     refine R_o rfl (E_alloc H ?_)
     clear H; intro w b8 H
     refine R_n rfl (E_storea (vs := [.slice A1 m.res.length c1, .slice A2 m.bids.length c2, .slice A3 m.ord.length c3]) H rfl rfl rfl rfl (by simp) ?_)
     clear H; intro w H
     replace H := H.cle (cs' := [.slice A1 m.res.length c1, .slice A2 m.bids.length c2, .slice A3 m.ord.length c3]) rfl
     refine R_nil (C_seq (C_region rfl (R_o rfl (E_fieldAddr rfl ?_))))
     refine R_o rfl (E_load H rfl rfl ?_)
     refine R_o rfl (E_call rfl (Clone_any_rows (Abides.below H.below hval) (by omega)) ?_)
     rintro v36 w1 ⟨us1, hus1, hc⟩
     obtain rfl := els_vals hus1
     replace H := H.call1 hc; clear hc
     obtain ⟨A36, c36, rfl, hc36, _⟩ := H.len (v := v36)
     refine R_o rfl (E_fieldAddr rfl ?_)
     refine R_n rfl (E_store (v := .slice A36 us1.length c36) H rfl rfl rfl (by simp) ?_)
     clear H; intro w H
     replace H := H.cle (cs' := [.slice A1 m.res.length c1, .slice A36 us1.length c36, .slice A3 m.ord.length c3]) rfl
     refine R_nil (C_seq (C_region rfl (R_o rfl (E_fieldAddr rfl ?_))))
     refine R_o rfl (E_load H rfl rfl ?_)
     refine R_o rfl (E_move (R_o rfl (E_move (R_o rfl (E_idxw (v := .slice A36 us1.length c36) H rfl rfl (by omega) (by omega) ?_)))))
     refine R_n rfl (E_storew (v := .slice A36 us1.length c36) (n := us1.length) (xs := us1) (j := i) (u := .slice A4 bid.length c4) H rfl rfl rfl (by omega) ?_)
     clear H; intro w H
     refine R_nil (C_seq (C_seq (C_region rfl (R_o rfl (E_loadw H rfl (by rfl) ?_)))))
     have ho2 : RdM w (.agg #[.slice A1 m.res.length c1, .slice A36 us1.length c36, .slice A3 m.ord.length c3]) (otherM m i bid) := ⟨_, _, _, rfl, Abides.below H.below ra, (H.fr (row 22 1 (.slice A36 us1.length c36) us1.length (us1.set i (.slice A4 bid.length c4)))).rdE ((hus.below H.below).set i (Abides.below H.below hb)), Abides.below H.below rc⟩
     refine R_o rfl (E_call rfl (Check_ ho2) ?_)
     rintro _ w1 ⟨rfl, hb⟩
     replace H := H.call0 hb; clear hb
     refine R_o rfl (E_not rfl ?_)
     refine R_nil (C_cond (t := 45) rfl (fun h45 => ?_) (fun h45 => ?_))
     ·
      refine C_seq (C_region rfl (R_o rfl (E_assign (R_o rfl (E_assign (R_nil (C_ret ?_)))))))
      with_reducible repeat (first | refine thn_ret ?_ | refine inB_ret ?_ | refine noG_ret ?_ | refine jmp_ret ?_)
      first
        | exact ret_list (rs := [.tmp 6, .tmp 7]) (vs := [.bool false, .int .i64 1]) rfl rfl ⟨rfl, rfl, trivial⟩ (.inr ⟨fun h => h13 h.1, rfl, H.below⟩)
        | exact ret_list (rs := [.tmp 6, .tmp 7]) (vs := [.bool false, .int .i64 1]) rfl rfl ⟨rfl, rfl, trivial⟩ (.inr ⟨fun h => by have := h.2.1; omega, rfl, H.below⟩)
        | exact ret_list (rs := [.tmp 6, .tmp 7]) (vs := [.bool false, .int .i64 1]) rfl rfl ⟨rfl, rfl, trivial⟩ (.inr ⟨fun h => by have := h.2.2.1; omega, rfl, H.below⟩)
        | exact ret_list (rs := [.tmp 6, .tmp 7]) (vs := [.bool false, .int .i64 1]) rfl rfl ⟨rfl, rfl, trivial⟩ (.inr ⟨fun h => h.2.2.2.1 (by rw [Int.toNat_natCast, hgx]; exact List.eq_nil_of_length_eq_zero (by omega)), rfl, H.below⟩)
        | exact ret_list (rs := [.tmp 6, .tmp 7]) (vs := [.bool false, .int .i64 1]) rfl rfl ⟨rfl, rfl, trivial⟩ (.inr ⟨fun h => h45 ((other_ok hok (by omega)).2 h.2.2.2.2), rfl, H.below⟩)
        | exact ret_list (rs := [.tmp 6, .tmp 7]) (vs := [.bool (decide (hasV (otherM m i bid) i x ≤ hasV m i x)), .int .i64 0]) rfl rfl ⟨rfl, rfl, trivial⟩ (.inl ⟨⟨hok, by omega, by omega, by rw [Int.toNat_natCast, hgx]; exact hxn, (other_ok hok (by omega)).1 hok2⟩, _, rfl, by rw [decide_eq_true_iff]; unfold trueV; rw [Int.toNat_natCast, hgx]; exact ⟨fun h => ⟨h56, h⟩, fun h => h.2⟩, H.below⟩)
        | exact ret_list (rs := [.tmp 6, .tmp 7]) (vs := [.bool false, .int .i64 0]) rfl rfl ⟨rfl, rfl, trivial⟩ (.inl ⟨⟨hok, by omega, by omega, by rw [Int.toNat_natCast, hgx]; exact hxn, (other_ok hok (by omega)).1 hok2⟩, _, rfl, by unfold trueV; rw [Int.toNat_natCast, hgx]; exact ⟨(fun h => by cases h), fun h => absurd h.1 h56⟩, H.below⟩)
        | skip
     ·
      have hok2 := Decidable.of_not_not h45
      refine C_skip (C_seq (C_drawL [] H (by kernel_rfl) (fun w H => ?_)))
      refine D_take 0 rfl rfl rfl (by kernel_rfl) (by first | exact H | exact H.drop | exact H.drop.drop | exact H.drop.drop.drop | exact H.drop.drop.drop.drop) (fun w HS K Z kk => E_loadw HS rfl (by rfl) kk) ?_
      refine D_takeT 1 rfl rfl rfl (by kernel_rfl) (fun w K Z kk => E_move kk) ?_
      refine D_takeT 2 rfl rfl rfl (by kernel_rfl) (fun w K Z kk => E_fieldAddr rfl kk) ?_
      refine D_take 3 rfl rfl rfl (by kernel_rfl) (by first | exact H | exact H.drop | exact H.drop.drop | exact H.drop.drop.drop | exact H.drop.drop.drop.drop) (fun w HS K Z kk => E_load HS rfl rfl kk) ?_
      refine D_takeT 4 rfl rfl rfl (by kernel_rfl) (fun w K Z kk => E_move kk) ?_
      refine D_takeT 5 rfl rfl rfl (by kernel_rfl) (fun w K Z kk => E_idxr rb rfl rfl (by omega) (by omega) kk) ?_
      refine D_take 6 rfl rfl rfl (by kernel_rfl) (by first | exact H | exact H.drop | exact H.drop.drop | exact H.drop.drop.drop | exact H.drop.drop.drop.drop) (fun w HS K Z kk => E_loadc hca HS rfl kk) ?_
      refine D_act 7 rfl rfl (by kernel_rfl) (E_call rfl (jHas_ (Abides.below H.below hm0) hok (by omega) (Abides.below H.below hu) hbb.1 hbb.2) ?_)
      rintro _ w1 ⟨rfl, hb⟩
      replace H := H.call0 hb; clear hb
      refine ⟨fun _ _ => (by first | exact H | exact H.drop | exact H.drop.drop | exact H.drop.drop.drop | exact H.drop.drop.drop.drop), ?_⟩
      refine D_takeT 8 rfl rfl rfl (by kernel_rfl) (fun w K Z kk => E_assign kk) ?_
      refine D_done (by kernel_rfl) ?_
      refine C_seq (C_drawL [] H (by kernel_rfl) (fun w H => ?_))
      refine D_takeT 0 rfl rfl rfl (by kernel_rfl) (fun w K Z kk => E_move kk) ?_
      refine D_takeT 1 rfl rfl rfl (by kernel_rfl) (fun w K Z kk => E_geq rfl rfl kk) ?_
      refine D_takeT 2 rfl rfl rfl (by kernel_rfl) (fun w K Z kk => E_move kk) ?_
      refine D_part (t := 56) rfl (fun h56 => ?_) (fun h56 => ?_)
      ·
       refine D_takeTw 3 rfl rfl rfl rfl rfl (by kernel_rfl) (fun w K Z kk => E_move kk) ?_
       refine D_takew 4 rfl rfl rfl rfl rfl (by kernel_rfl) (by first | exact H | exact H.drop | exact H.drop.drop | exact H.drop.drop.drop | exact H.drop.drop.drop.drop) (fun w HS K Z kk => E_loadw HS rfl (by rfl) kk) ?_
       refine D_takeTw 5 rfl rfl rfl rfl rfl (by kernel_rfl) (fun w K Z kk => E_move kk) ?_
       refine D_takeTw 6 rfl rfl rfl rfl rfl (by kernel_rfl) (fun w K Z kk => E_fieldAddr rfl kk) ?_
       refine D_takew 7 rfl rfl rfl rfl rfl (by kernel_rfl) (by first | exact H | exact H.drop | exact H.drop.drop | exact H.drop.drop.drop | exact H.drop.drop.drop.drop) (fun w HS K Z kk => E_load HS rfl rfl kk) ?_
       refine D_takeTw 8 rfl rfl rfl rfl rfl (by kernel_rfl) (fun w K Z kk => E_move kk) ?_
       refine D_takeTw 9 rfl rfl rfl rfl rfl (by kernel_rfl) (fun w K Z kk => E_idxr rb rfl rfl (by omega) (by omega) kk) ?_
       refine D_takew 10 rfl rfl rfl rfl rfl (by kernel_rfl) (by first | exact H | exact H.drop | exact H.drop.drop | exact H.drop.drop.drop | exact H.drop.drop.drop.drop) (fun w HS K Z kk => E_loadc hca HS rfl kk) ?_
       have ho3 : RdM w (.agg #[.slice A1 m.res.length c1, .slice A36 us1.length c36, .slice A3 m.ord.length c3]) (otherM m i bid) := ⟨_, _, _, rfl, Abides.below H.below ra, (H.fr (row 22 1 (.slice A36 us1.length c36) us1.length (us1.set i (.slice A4 bid.length c4)))).rdE ((hus.below H.below).set i (Abides.below H.below hb)), Abides.below H.below rc⟩
       refine D_actw 11 rfl rfl rfl rfl (by kernel_rfl) (E_call rfl (jHas_ ho3 hok2 (by simp [otherM]; omega) (Abides.below H.below hu) hbb.1 hbb.2) ?_)
       rintro _ w1 ⟨rfl, hb⟩
       replace H := H.call0 hb; clear hb
       refine ⟨fun _ _ => (by first | exact H | exact H.drop | exact H.drop.drop | exact H.drop.drop.drop | exact H.drop.drop.drop.drop), ?_⟩
       refine D_takeTw 12 rfl rfl rfl rfl rfl (by kernel_rfl) (fun w K Z kk => E_geq rfl rfl kk) ?_
       refine D_takeT 13 rfl rfl rfl (by kernel_rfl) (fun w K Z kk => E_pick rfl kk) ?_
       refine D_takeT 14 rfl rfl rfl (by kernel_rfl) (fun w K Z kk => E_assign kk) ?_
       refine D_takeT 15 rfl rfl rfl (by kernel_rfl) (fun w K Z kk => E_assign kk) ?_
       refine D_done (by kernel_rfl) ?_
       refine C_ret ?_
       with_reducible repeat (first | refine thn_ret ?_ | refine inB_ret ?_ | refine noG_ret ?_ | refine jmp_ret ?_)
       first
         | exact ret_list (rs := [.tmp 6, .tmp 7]) (vs := [.bool false, .int .i64 1]) rfl rfl ⟨rfl, rfl, trivial⟩ (.inr ⟨fun h => h13 h.1, rfl, H.below⟩)
         | exact ret_list (rs := [.tmp 6, .tmp 7]) (vs := [.bool false, .int .i64 1]) rfl rfl ⟨rfl, rfl, trivial⟩ (.inr ⟨fun h => by have := h.2.1; omega, rfl, H.below⟩)
         | exact ret_list (rs := [.tmp 6, .tmp 7]) (vs := [.bool false, .int .i64 1]) rfl rfl ⟨rfl, rfl, trivial⟩ (.inr ⟨fun h => by have := h.2.2.1; omega, rfl, H.below⟩)
         | exact ret_list (rs := [.tmp 6, .tmp 7]) (vs := [.bool false, .int .i64 1]) rfl rfl ⟨rfl, rfl, trivial⟩ (.inr ⟨fun h => h.2.2.2.1 (by rw [Int.toNat_natCast, hgx]; exact List.eq_nil_of_length_eq_zero (by omega)), rfl, H.below⟩)
         | exact ret_list (rs := [.tmp 6, .tmp 7]) (vs := [.bool false, .int .i64 1]) rfl rfl ⟨rfl, rfl, trivial⟩ (.inr ⟨fun h => h45 ((other_ok hok (by omega)).2 h.2.2.2.2), rfl, H.below⟩)
         | exact ret_list (rs := [.tmp 6, .tmp 7]) (vs := [.bool (decide (hasV (otherM m i bid) i x ≤ hasV m i x)), .int .i64 0]) rfl rfl ⟨rfl, rfl, trivial⟩ (.inl ⟨⟨hok, by omega, by omega, by rw [Int.toNat_natCast, hgx]; exact hxn, (other_ok hok (by omega)).1 hok2⟩, _, rfl, by rw [decide_eq_true_iff]; unfold trueV; rw [Int.toNat_natCast, hgx]; exact ⟨fun h => ⟨h56, h⟩, fun h => h.2⟩, H.below⟩)
         | exact ret_list (rs := [.tmp 6, .tmp 7]) (vs := [.bool false, .int .i64 0]) rfl rfl ⟨rfl, rfl, trivial⟩ (.inl ⟨⟨hok, by omega, by omega, by rw [Int.toNat_natCast, hgx]; exact hxn, (other_ok hok (by omega)).1 hok2⟩, _, rfl, by unfold trueV; rw [Int.toNat_natCast, hgx]; exact ⟨(fun h => by cases h), fun h => absurd h.1 h56⟩, H.below⟩)
         | skip
      ·
       refine D_passT 3 rfl rfl rfl rfl rfl (by kernel_rfl) ?_
       refine D_passT 4 rfl rfl rfl rfl rfl (by kernel_rfl) ?_
       refine D_passT 5 rfl rfl rfl rfl rfl (by kernel_rfl) ?_
       refine D_passT 6 rfl rfl rfl rfl rfl (by kernel_rfl) ?_
       refine D_passT 7 rfl rfl rfl rfl rfl (by kernel_rfl) ?_
       refine D_passT 8 rfl rfl rfl rfl rfl (by kernel_rfl) ?_
       refine D_passT 9 rfl rfl rfl rfl rfl (by kernel_rfl) ?_
       refine D_passT 10 rfl rfl rfl rfl rfl (by kernel_rfl) ?_
       refine D_passT 11 rfl rfl rfl rfl rfl (by kernel_rfl) ?_
       refine D_passT 12 rfl rfl rfl rfl rfl (by kernel_rfl) ?_
       refine D_takeT 13 rfl rfl rfl (by kernel_rfl) (fun w K Z kk => E_pick rfl kk) ?_
       refine D_takeT 14 rfl rfl rfl (by kernel_rfl) (fun w K Z kk => E_assign kk) ?_
       refine D_takeT 15 rfl rfl rfl (by kernel_rfl) (fun w K Z kk => E_assign kk) ?_
       refine D_done (by kernel_rfl) ?_
       refine C_ret ?_
       with_reducible repeat (first | refine thn_ret ?_ | refine inB_ret ?_ | refine noG_ret ?_ | refine jmp_ret ?_)
       first
         | exact ret_list (rs := [.tmp 6, .tmp 7]) (vs := [.bool false, .int .i64 1]) rfl rfl ⟨rfl, rfl, trivial⟩ (.inr ⟨fun h => h13 h.1, rfl, H.below⟩)
         | exact ret_list (rs := [.tmp 6, .tmp 7]) (vs := [.bool false, .int .i64 1]) rfl rfl ⟨rfl, rfl, trivial⟩ (.inr ⟨fun h => by have := h.2.1; omega, rfl, H.below⟩)
         | exact ret_list (rs := [.tmp 6, .tmp 7]) (vs := [.bool false, .int .i64 1]) rfl rfl ⟨rfl, rfl, trivial⟩ (.inr ⟨fun h => by have := h.2.2.1; omega, rfl, H.below⟩)
         | exact ret_list (rs := [.tmp 6, .tmp 7]) (vs := [.bool false, .int .i64 1]) rfl rfl ⟨rfl, rfl, trivial⟩ (.inr ⟨fun h => h.2.2.2.1 (by rw [Int.toNat_natCast, hgx]; exact List.eq_nil_of_length_eq_zero (by omega)), rfl, H.below⟩)
         | exact ret_list (rs := [.tmp 6, .tmp 7]) (vs := [.bool false, .int .i64 1]) rfl rfl ⟨rfl, rfl, trivial⟩ (.inr ⟨fun h => h45 ((other_ok hok (by omega)).2 h.2.2.2.2), rfl, H.below⟩)
         | exact ret_list (rs := [.tmp 6, .tmp 7]) (vs := [.bool (decide (hasV (otherM m i bid) i x ≤ hasV m i x)), .int .i64 0]) rfl rfl ⟨rfl, rfl, trivial⟩ (.inl ⟨⟨hok, by omega, by omega, by rw [Int.toNat_natCast, hgx]; exact hxn, (other_ok hok (by omega)).1 hok2⟩, _, rfl, by rw [decide_eq_true_iff]; unfold trueV; rw [Int.toNat_natCast, hgx]; exact ⟨fun h => ⟨h56, h⟩, fun h => h.2⟩, H.below⟩)
         | exact ret_list (rs := [.tmp 6, .tmp 7]) (vs := [.bool false, .int .i64 0]) rfl rfl ⟨rfl, rfl, trivial⟩ (.inl ⟨⟨hok, by omega, by omega, by rw [Int.toNat_natCast, hgx]; exact hxn, (other_ok hok (by omega)).1 hok2⟩, _, rfl, by unfold trueV; rw [Int.toNat_natCast, hgx]; exact ⟨(fun h => by cases h), fun h => absurd h.1 h56⟩, H.below⟩)
         | skip
end Go.Sl
