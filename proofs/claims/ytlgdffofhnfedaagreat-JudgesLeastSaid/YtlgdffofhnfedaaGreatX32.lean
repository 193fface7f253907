/- judges. -/
import Derived.Test.YtlgdffofhnfedaaGreatX31
set_option linter.unusedVariables false
set_option linter.unusedSimpArgs false
set_option maxRecDepth 10000
set_option maxHeartbeats 2000000
namespace Go.Sl
open Go.RowKit
open Go.Proofs
theorem Gains3_ {w0 : World} {v : Value} {m : Mk} (hm : RdM w0 v m) : Ret Tryz.prog 31 [v] w0 (fun r w => ∃ e A n c, r = .tuple #[.slice A n c, .int .i64 e] ∧ Loc w0 w [rdv (.slice A n c) (fun w => okMk m → RdII w (.slice A n c) (gains m))]) :=
 (Gains_ hm).mono fun r w h => by
   rcases h with ⟨h1, v, rfl, h2⟩ | ⟨h1, rfl, h2⟩
   · obtain ⟨A, c, rfl, _⟩ := h2.read.len
     exact ⟨_, A, _, c, rfl, h2.rdImp fun w h _ => h⟩
   · exact ⟨_, _, _, _, rfl, h2.mkEmp.toRd _ _ fun _ _ _ h => absurd h h1⟩
theorem boolFn_of {P : Program} {fv : Value} {w0 : World} {p : Prop} {b0 : Bool} {g : FuncId} {first captured : Array Value} (hb0 : b0 = true ↔ p) (e : fv = .func (.func g) first captured) (hg : hasBody P g = true)
   (h : ∀ w, Below w0.heap.size w0 w → Ret P g (first.toList ++ captured.toList) w (fun v w' => ∃ b, v = .bool b ∧ (b = true ↔ p) ∧ Below w.heap.size w w')) : BoolFn P fv w0 b0 :=
 ⟨g, first, captured, e, hg, fun w hb => (h w hb).mono fun v w' ⟨b, hv, hp, hb'⟩ => ⟨by
   rw [hv]
   congr 1
   rw [Bool.eq_iff_iff, hp, hb0], hb'⟩⟩
theorem qs_ex (p0 p1 p2 : Prop) : ∃ q : Nat → Bool, (q 0 = true ↔ p0) ∧ (q 1 = true ↔ p1) ∧ (q 2 = true ↔ p2) := by
 classical
 exact ⟨fun j => match j with | 0 => decide p0 | 1 => decide p1 | _ => decide p2, by simp, by simp, by simp⟩
theorem jLeast_ {w0 : World} {u v : Value} {m : Mk} {o : Oc} (hm : RdM w0 u m) (ho : RdO w0 v o) :
   Ret Tryz.prog 14 [u, v] w0 (fun r w => ∃ b, r = .bool b ∧ (b = true ↔ leastOk m o) ∧ Below w0.heap.size w0 w) := by
 refine ret_of_C Tryz.func14 rfl rfl rfl ?_
 have H := Loc.refl w0
 have hm0 := hm
 have ho0 := ho
 obtain ⟨a, b, c, rfl, ra, rb, rc⟩ := hm
 obtain ⟨ha, pa, rfl, rh, rp⟩ := ho
 obtain ⟨A1, c1, rfl, hA1, hA2⟩ := ra.len
 obtain ⟨A2, c2, rfl, hB1, hB2⟩ := rb.len
 obtain ⟨A5, c5, rfl, hE1, hE2⟩ := rc.len
 obtain ⟨A3, c3, rfl, hC1, hC2⟩ := rh.len
 obtain ⟨A4, c4, rfl, hD1, hD2⟩ := rp.len
 refine C_seq (C_region rfl (R_o rfl (E_box (cs := [.slice A1 m.res.length c1, .slice A2 m.bids.length c2, .slice A5 m.ord.length c5]) rfl H ?_)))
 clear H; intro w b2 H
 refine R_o rfl (E_box (cs := [.slice A3 o.has.length c3, .slice A4 o.pri.length c4]) rfl H ?_)
 clear H; intro w b3 H
 refine R_o rfl (E_assign (R_nil (C_seq (C_region rfl (R_o rfl (E_loadw H rfl (by rfl) ?_))))))
 refine R_o rfl (E_loadw H rfl (by rfl) ?_)
 refine R_o rfl (E_build (cs := [.slice A1 m.res.length c1, .slice A2 m.bids.length c2, .slice A5 m.ord.length c5, .slice A3 o.has.length c3, .slice A4 o.pri.length c4, .slice none 0 0]) rfl ?_)
 refine R_o rfl (E_box (cs := [.slice A1 m.res.length c1, .slice A2 m.bids.length c2, .slice A5 m.ord.length c5, .slice A3 o.has.length c3, .slice A4 o.pri.length c4, .slice none 0 0]) rfl H ?_)
 clear H; intro w bV H
 refine R_o rfl (E_assign (R_nil (C_seq (C_region rfl (R_o rfl (E_move (R_o rfl (E_loadw H rfl (by rfl) ?_))))))))
 refine R_o rfl (E_call rfl (Gains3_ (Abides.below H.below hm0)) ?_)
 rintro _ w1 ⟨e1, Ag_, ng, cg, rfl, hc⟩
 replace H := H.call1 hc; clear hc
 refine R_o rfl (E_move (R_o rfl (E_extract rfl rfl ?_)))
 refine R_o rfl (E_extract rfl rfl ?_)
 refine R_o rfl (E_nilCheck rfl ?_)
 refine R_o rfl (E_fieldAddr rfl ?_)
 refine R_n rfl (E_storep 5 (.slice Ag_ ng cg) [.slice A1 m.res.length c1, .slice A2 m.bids.length c2, .slice A5 m.ord.length c5, .slice A3 o.has.length c3, .slice A4 o.pri.length c4, .slice Ag_ ng cg] H rfl rfl rfl rfl (by simp) rfl ?_)
 clear H; intro w H
 refine R_nil (C_seq (C_region rfl (R_o rfl (E_makeFunc rfl rfl ?_))))
 refine R_o rfl (E_move (R_o rfl (E_makeFunc rfl rfl ?_)))
 refine R_o rfl (E_move (R_o rfl (E_makeFunc rfl rfl ?_)))
 refine R_o rfl (E_lit (vs := [.func (.func 33) #[] #[.pointer (some ⟨b2, 0, none⟩), .pointer (some ⟨b3, 0, none⟩)], .func (.func 35) #[.pointer (some ⟨bV, 0, none⟩)] #[], .func (.func 36) #[.pointer (some ⟨bV, 0, none⟩)] #[]]) [.tmp 18, .tmp 20, .tmp 22] rfl rfl rfl rfl rfl H ?_)
 clear H; intro w b23 H
 obtain ⟨q, hq0, hq1, hq2⟩ := qs_ex (evenV m o) (sumV m o = bestV (gains m) m.res.length) (wantTo m o o.has.length = o.pri)
 have hrd : RdS rVal w (.slice (some ⟨b23, 0, none⟩) 3 3) [.func (.func 33) #[] #[.pointer (some ⟨b2, 0, none⟩), .pointer (some ⟨b3, 0, none⟩)], .func (.func 35) #[.pointer (some ⟨bV, 0, none⟩)] #[], .func (.func 36) #[.pointer (some ⟨bV, 0, none⟩)] #[]] := RdS.of_cl (r := rVal) (b := b23) (cap := 3) H (by simp) (by omega) (fun i x hx => ⟨x, hx, rfl⟩)
 have hb2 := (H.fr (cl b2 25 [.slice A1 m.res.length c1, .slice A2 m.bids.length c2, .slice A5 m.ord.length c5])).get
 have hb3 := (H.fr (cl b3 27 [.slice A3 o.has.length c3, .slice A4 o.pri.length c4])).get
 have hV : evenV m o → ViewR w bV (.slice A1 m.res.length c1) (.slice A2 m.bids.length c2) (.slice A5 m.ord.length c5) (.slice A3 o.has.length c3) (.slice A4 o.pri.length c4) (.slice Ag_ ng cg) m o := fun hE =>
   ⟨(H.fr (cl bV 56 [.slice A1 m.res.length c1, .slice A2 m.bids.length c2, .slice A5 m.ord.length c5, .slice A3 o.has.length c3, .slice A4 o.pri.length c4, .slice Ag_ ng cg])).get, Abides.below H.below ra, Abides.below H.below rb, Abides.below H.below rc, Abides.below H.below rh, Abides.below H.below rp, (H.fr (rdv (.slice Ag_ ng cg) (fun w => okMk m → RdII w (.slice Ag_ ng cg) (gains m)))).read hE.1⟩
 have hq : FnsOk Tryz.prog w [.func (.func 33) #[] #[.pointer (some ⟨b2, 0, none⟩), .pointer (some ⟨b3, 0, none⟩)], .func (.func 35) #[.pointer (some ⟨bV, 0, none⟩)] #[], .func (.func 36) #[.pointer (some ⟨bV, 0, none⟩)] #[]] q := fun k f hf hall => by
   match k, hf with
   | 0, hf =>
     cases hf
     exact boolFn_of hq0 rfl (by kernel_rfl) fun w' hb => jLeast1_ (m := m) (o := o) ((hb.block b2 (Array.getElem?_eq_some_iff.1 hb2).1).trans hb2) ((hb.block b3 (Array.getElem?_eq_some_iff.1 hb3).1).trans hb3) (Abides.below hb (Abides.below H.below hm0)) (Abides.below hb (Abides.below H.below ho0))
   | 1, hf =>
     cases hf
     have hE : evenV m o := hq0.1 (hall 0 (by omega))
     exact boolFn_of hq1 rfl (by kernel_rfl) fun w' hb => (vmost_ ((hV hE).below hb) hE).mono fun v w h => ⟨_, h.1, decide_eq_true_iff, h.2⟩
   | 2, hf =>
     cases hf
     have hE : evenV m o := hq0.1 (hall 0 (by omega))
     exact boolFn_of hq2 rfl (by kernel_rfl) fun w' hb => (vpaid_ ((hV hE).below hb) hE).mono fun v w h => ⟨_, h.1, decide_eq_true_iff, h.2⟩
   | k + 3, hf => simp at hf
 refine R_o rfl (E_call rfl (all_ (fs := [.func (.func 33) #[] #[.pointer (some ⟨b2, 0, none⟩), .pointer (some ⟨b3, 0, none⟩)], .func (.func 35) #[.pointer (some ⟨bV, 0, none⟩)] #[], .func (.func 36) #[.pointer (some ⟨bV, 0, none⟩)] #[]]) (q := q) hrd hq) ?_)
 rintro _ w1 ⟨bb, rfl, hbb, hb⟩
 replace H := H.call0 hb; clear hb
 refine R_o rfl (E_assign (R_nil (C_ret ?_)))
 with_reducible repeat (first | refine thn_ret ?_ | refine inB_ret ?_ | refine noG_ret ?_ | refine jmp_ret ?_)
 refine ret_one rfl rfl ⟨bb, rfl, ?_, H.below⟩
 rw [hbb]
 unfold leastOk
 constructor
 · intro h
   exact ⟨hq0.1 (h 0 (by simp)), hq1.1 (h 1 (by simp)), hq2.1 (h 2 (by simp))⟩
 · intro h j hj
   have hj3 : j < 3 := hj
   rcases (by omega : j = 0 ∨ j = 1 ∨ j = 2) with rfl | rfl | rfl
   · exact hq0.2 h.1
   · exact hq1.2 h.2.1
   · exact hq2.2 h.2.2
end Go.Sl
