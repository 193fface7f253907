/- whoever says what items are worth to it. -/
import Derived.Test.YtlgdffofhnfedaaGreatX36
import Derived.Test.YtlgdffofhnfedaaGreatEh
set_option linter.unusedVariables false
set_option linter.unusedSimpArgs false
set_option maxRecDepth 10000
set_option maxHeartbeats 2000000
namespace Go.Sl
open Go.RowKit
open Go.Proofs
def TrueIs (m : Mk) (i : Int) (bid : List Int) (b : Bool) (e : Int) : Prop := (TrueOk m i bid ∧ e = 0 ∧ (b = true ↔ trueV m i.toNat bid)) ∨ (¬ TrueOk m i bid ∧ e = 1 ∧ b = false)
theorem TruePo.form {m : Mk} {i : Int} {bid : List Int} {w0 w : World} {r : Value} (h : TruePo m i bid w0 r w) : ∃ b e, r = .tuple #[.bool b, .int .i64 e] ∧ TrueIs m i bid b e ∧ Below w0.heap.size w0 w := by
  rcases h with ⟨h1, b, rfl, h2, h3⟩ | ⟨h1, rfl, h3⟩
  · exact ⟨_, _, rfl, .inl ⟨h1, rfl, h2⟩, h3⟩
  · exact ⟨_, _, rfl, .inr ⟨h1, rfl, rfl⟩, h3⟩
section
variable {P : Program} {yl : Bool} {ρ : Rg} {w : World} {x y : Operand} {ty : TypeId} {K : Value → World → Prop} {Z : List PanicEntry → World → Prop} {t t' : TypeId}
theorem E_remn {a b : Nat} (hx : ρ.ev x = .int .i64 a) (hy : ρ.ev y = .int .i64 b) (hb : 0 < b) (hl : a < 9223372036854775808) (k : K (.int .i64 ((a % b : Nat) : Int)) w) : E P yl ρ w (.binOp .rem t x y t') ty K Z := by
 refine E_of_run ?_ k
 have h1 : ¬ (b : Int) = 0 := by omega
 have h2 : a % b < 9223372036854775808 := Nat.lt_of_le_of_lt (Nat.mod_le _ _) hl
 have h3 : (a : Int).tmod (b : Int) = (a : Int) % (b : Int) := by rw [Int.tmod_eq_emod_of_nonneg (by omega)]
 simp [execOp, eqGuard, hx, hy, binOp, Op.intArith, Op.intDiv, h1, h3]
 intro h; omega
end
theorem JudgesHonest_ {w0 : World} {v u : Value} {m : Mk} {bd : Nat} {bid : List Int} (hm : RdM w0 v m) (hu : RdI w0 u bid) (hbd : bd ≤ 255) :
   Ret Tryz.prog 4 [v, .int .u8 (bd : Int), u] w0 (fun r w => r = .bool true ∧ Below w0.heap.size w0 w) := by
 refine ret_of_C Tryz.func4 rfl rfl rfl ?_
 have H := Loc.refl w0
 have hm0 := hm
 obtain ⟨a, b, c, rfl, ra, rb, rc⟩ := hm
 obtain ⟨A1, c1, rfl, hA1, hA2⟩ := ra.len
 obtain ⟨A2, c2, rfl, hB1, hB2⟩ := rb.len
 obtain ⟨A3, c3, rfl, hC1, hC2⟩ := rc.len
 refine C_seq (C_region rfl (R_o rfl (E_box (cs := [.slice A1 m.res.length c1, .slice A2 m.bids.length c2, .slice A3 m.ord.length c3]) rfl H ?_)))
 clear H; intro w b3 H
 refine R_o rfl (E_assign (R_nil (C_seq (C_seq (C_region rfl (R_o rfl (E_loadw H rfl (by rfl) ?_)))))))
 refine R_o rfl (E_call rfl (Check_ (Abides.below H.below hm0)) ?_)
 rintro _ w1 ⟨rfl, hb⟩
 replace H := H.call0 hb; clear hb
 refine R_o rfl (E_not rfl ?_)
 refine R_nil (C_cond (t := 14) rfl (fun h14 => ?_) (fun h14 => ?_))
 ·
  refine C_seq (C_region rfl (R_o rfl (E_call rfl (lives_) ?_)))
  rintro _ w1 ⟨rfl, hb⟩
  replace H := H.call0 hb; clear hb
  refine R_o rfl (E_assign (R_nil (C_ret ?_)))
  with_reducible repeat (first | refine thn_ret ?_ | refine inB_ret ?_ | refine noG_ret ?_ | refine jmp_ret ?_)
  exact ret_one rfl rfl ⟨rfl, H.below⟩
 ·
  have hok := Decidable.of_not_not h14
  have hn1 := hok.2.1.1
  have hn2 := hok.2.1.2
  have hmod : bd % m.bids.length < m.bids.length := Nat.mod_lt _ (by omega)
  refine C_skip (C_seq (C_region rfl (R_o rfl (E_move (R_o rfl (E_convi (a := bd) rfl (by omega) ?_))))))
  refine R_o rfl (E_fieldAddr rfl ?_)
  refine R_o rfl (E_load H rfl rfl ?_)
  refine R_o rfl (E_len rfl ?_)
  refine R_o rfl (E_remn (a := bd) (b := m.bids.length) rfl rfl (by omega) (by omega) ?_)
  refine R_o rfl (E_assign (R_nil (C_seq (C_region rfl (R_o rfl (E_loadw H rfl (by rfl) ?_))))))
  refine R_o rfl (E_move (R_o rfl (E_move (R_o rfl (E_call rfl (jTrue_ (bi := ((bd % m.bids.length : Nat) : Int)) (bid := bid) (Abides.below H.below hm0) (Abides.below H.below hu) (by omega)) ?_)))))
  rintro _ w1 hT
  obtain ⟨p6, e6, rfl, hT6, hb⟩ := hT.form
  replace H := H.call0 hb; clear hb hT
  refine R_o rfl (E_move (R_o rfl (E_extract rfl rfl ?_)))
  refine R_o rfl (E_extract rfl rfl ?_)
  refine R_o rfl (E_assign (R_o rfl (E_assign (R_nil (C_seq (C_seq (C_region rfl (R_o rfl (E_move (R_o rfl (E_neq rfl rfl ?_)))))))))))
  refine R_nil (C_cond (t := 30) rfl (fun h30 => ?_) (fun h30 => ?_))
  ·
   obtain ⟨_, rfl, rfl⟩ := hT6.resolve_left (fun h => h30 h.2.1)
   refine C_seq (C_region rfl (R_o rfl (E_move (R_o rfl (E_eql rfl rfl ?_)))))
   refine R_o rfl (E_move (R_w rfl rfl rfl (E_move ?_)))
   refine R_w rfl rfl rfl (E_notb rfl ?_)
   refine R_o rfl (E_pick rfl ?_)
   refine R_o rfl (E_move (R_w rfl rfl rfl (E_call rfl (lives_) ?_)))
   rintro _ w1 ⟨rfl, hb⟩
   replace H := H.call0 hb; clear hb
   refine R_o rfl (E_pick rfl ?_)
   refine R_o rfl (E_assign (R_nil (C_ret ?_)))
   with_reducible repeat (first | refine thn_ret ?_ | refine inB_ret ?_ | refine noG_ret ?_ | refine jmp_ret ?_)
   exact ret_one rfl rfl ⟨rfl, H.below⟩
  ·
   obtain ⟨hT, rfl, hp6⟩ := hT6.resolve_right (fun h => h30 (by rw [h.2.1]; decide))
   obtain rfl : p6 = true := hp6.2 (trueOk_true hT)
   refine C_skip (C_seq (C_region rfl (R_o rfl (E_loadw H rfl (by rfl) ?_))))
   refine R_o rfl (E_move (R_o rfl (E_call rfl (jTrue_ (bi := ((bd % m.bids.length : Nat) : Int)) (bid := []) (Abides.below H.below hm0) (RdS.nil _ _) (by omega)) ?_)))
   rintro _ w1 hT
   obtain ⟨p7, e7, rfl, hT7, hb⟩ := hT.form
   replace H := H.call0 hb; clear hb hT
   obtain ⟨_, rfl, hp7⟩ := hT7.resolve_right (fun h => h.1 ⟨hT.1, hT.2.1, hT.2.2.1, hT.2.2.2.1, fun h => absurd h.1 (by simp)⟩)
   obtain rfl : p7 = true := hp7.2 (trueOk_true ⟨hT.1, hT.2.1, hT.2.2.1, hT.2.2.2.1, fun h => absurd h.1 (by simp)⟩)
   refine R_o rfl (E_move (R_o rfl (E_extract rfl rfl ?_)))
   refine R_o rfl (E_extract rfl rfl ?_)
   refine R_o rfl (E_assign (R_o rfl (E_assign (R_nil (C_seq (C_region rfl (R_o rfl (E_move (R_o rfl (E_move (R_w rfl rfl rfl (E_move ?_))))))))))))
   refine R_o rfl (E_pick rfl ?_)
   refine R_o rfl (E_move (R_w rfl rfl rfl (E_move ?_)))
   refine R_w rfl rfl rfl (E_eql rfl rfl ?_)
   refine R_o rfl (E_pick rfl ?_)
   refine R_o rfl (E_move (R_w rfl rfl rfl (E_call rfl (lives_) ?_)))
   rintro _ w1 ⟨rfl, hb⟩
   replace H := H.call0 hb; clear hb
   refine R_o rfl (E_pick rfl ?_)
   refine R_o rfl (E_assign (R_nil (C_ret ?_)))
   with_reducible repeat (first | refine thn_ret ?_ | refine inB_ret ?_ | refine noG_ret ?_ | refine jmp_ret ?_)
   exact ret_one rfl rfl ⟨rfl, H.below⟩
end Go.Sl
