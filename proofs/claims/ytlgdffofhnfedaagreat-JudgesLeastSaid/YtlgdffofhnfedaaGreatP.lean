/- The shallow logic, part 11: a region that draws, where several acts may come up at once. No program in sight. -/
import Derived.Test.YtlgdffofhnfedaaGreatR
set_option linter.unusedVariables false
set_option linter.unusedSimpArgs false
namespace Go.Sl
open Go.RowKit
section
variable {P : Program} {n : Nat} {ops : List Oper} {Q : Post} {S : World → Prop} {f : List Nat} {fuel : Nat} {listed : Array Bool} {ρ : Rg} {w : World}
def ActG (P : Program) (n : Nat) (ops : List Oper) (Q : Post) (S : World → Prop) (f : List Nat) (fuel : Nat) (listed : Array Bool) (ρ : Rg) (w : World) (i : Nat) : Prop :=
  ∃ oi, ops[i]? = some oi ∧ (∀ a, Is n a ρ → Region.wanted oi (yielded ops.toArray a.tmps) = true) ∧ dstOk n oi = true ∧
    E P false ρ w oi.op oi.type (fun v w' => (f.contains i = false → S w → S w') ∧ D P n ops Q S f fuel (listed.setIfInBounds i true) (ρ.put oi.dst v) w') (fun c w' => Q (.panic c) ρ w')
theorem D_alls {i0 : Nat} {is : List Nat} (ht : (Region.ready .any ops.toArray listed == i0 :: is) = true) (h : ∀ i ∈ i0 :: is, ActG P n ops Q S f fuel listed ρ w i) : D P n ops Q S f (fuel + 1) listed ρ w := by
  intro a ha
  have hr : Region.ready .any ops.toArray listed = i0 :: is := by simpa using ht
  refine ⟨fun h0 => ?_, fun j hj => ?_⟩
  · rw [hr] at h0; cases h0
  rw [hr] at hj
  obtain ⟨oi, ho, hw, hok, hE⟩ := h j hj
  unfold wpOp
  have ho' : ops.toArray[j]? = some oi := by simpa using ho
  rw [ho']
  dsimp only
  rw [if_pos (hw a ha)]
  refine .inl ?_
  unfold Oper.wp
  rw [ha.ev, show execOp ρ.ev oi = execOp ρ.ev ⟨none, oi.op, oi.type, "", #[], none⟩ from execOp_op ρ.ev oi.dst oi.op oi.type oi.pos oi.after oi.guard]
  exact upon_of_fin (P := P) (fun v w' hK => ⟨hK.1, hK.2 _ (ha.put hok v)⟩) (fun c w' hz => ⟨ρ, ha, hz⟩) hE
theorem D_two {i j : Nat} (ht : (Region.ready .any ops.toArray listed == [i, j]) = true) (hi : ActG P n ops Q S f fuel listed ρ w i) (hj : ActG P n ops Q S f fuel listed ρ w j) : D P n ops Q S f (fuel + 1) listed ρ w :=
  D_alls ht fun k hk => by
    rcases List.mem_cons.1 hk with rfl | hk
    · exact hi
    · rcases List.mem_cons.1 hk with rfl | hk
      · exact hj
      · cases hk
theorem D_three {i j k : Nat} (ht : (Region.ready .any ops.toArray listed == [i, j, k]) = true) (hi : ActG P n ops Q S f fuel listed ρ w i) (hj : ActG P n ops Q S f fuel listed ρ w j) (hk : ActG P n ops Q S f fuel listed ρ w k) : D P n ops Q S f (fuel + 1) listed ρ w :=
  D_alls ht fun l hl => by
    rcases List.mem_cons.1 hl with rfl | hl
    · exact hi
    · rcases List.mem_cons.1 hl with rfl | hl
      · exact hj
      · rcases List.mem_cons.1 hl with rfl | hl
        · exact hk
        · cases hl
theorem D_one {i : Nat} (ht : (Region.ready .any ops.toArray listed == [i]) = true) (hi : ActG P n ops Q S f fuel listed ρ w i) : D P n ops Q S f (fuel + 1) listed ρ w :=
  D_alls ht fun k hk => by
    rcases List.mem_cons.1 hk with rfl | hk
    · exact hi
    · cases hk
theorem act_o (i : Nat) {d : Tmp} {op : Op} {ty : TypeId} {p : String} {af : Array Edge} (ho : ops[i]? = some ⟨some d, op, ty, p, af, none⟩) (hok : Nat.ble (d + 1) n = true)
    (h : E P false ρ w op ty (fun v w' => (f.contains i = false → S w → S w') ∧ D P n ops Q S f fuel (listed.setIfInBounds i true) (ρ.up d v) w') (fun c w' => Q (.panic c) ρ w')) : ActG P n ops Q S f fuel listed ρ w i :=
  ⟨_, ho, fun a _ => by simp [Region.wanted], hok, h⟩
def upl (ρ : Rg) : List (Nat × Value) → Rg
  | [] => ρ
  | p :: l => (upl ρ l).up p.1 p.2
theorem up_comm {a b : Nat} {x y : Value} (h : a ≠ b) (ρ : Rg) : (ρ.up a x).up b y = (ρ.up b y).up a x := by
  have : (fun j => bif Nat.beq j b then y else (bif Nat.beq j a then x else ρ.r j)) = (fun j => bif Nat.beq j a then x else (bif Nat.beq j b then y else ρ.r j)) := by
    funext j
    cases h1 : Nat.beq j b <;> cases h2 : Nat.beq j a <;> try rfl
    have := Nat.eq_of_beq_eq_true h1
    have := Nat.eq_of_beq_eq_true h2
    omega
  simp only [Rg.up, this]
theorem upl_perm (ρ : Rg) {L L' : List (Nat × Value)} (h : L.Perm L') : (L.map (·.1)).Nodup → upl ρ L = upl ρ L' := by
  induction h with
  | nil => intro _; rfl
  | cons p _ ih => intro hn; simp only [List.map_cons, List.nodup_cons] at hn; simp only [upl, ih hn.2]
  | swap p q l =>
    intro hn
    simp only [List.map_cons, List.nodup_cons, List.mem_cons, not_or] at hn
    exact up_comm (fun e => hn.1.1 e.symm) _
  | trans h1 _ ih1 ih2 => intro hn; rw [ih1 hn, ih2 ((h1.map _).nodup_iff.1 hn)]
def ndB : List Nat → Bool
  | [] => true
  | x :: l => !(l.any (Nat.beq x)) && ndB l
theorem ndB_nodup : ∀ {l : List Nat}, ndB l = true → l.Nodup
  | [], _ => List.nodup_nil
  | x :: l, h => by
    simp only [ndB, Bool.and_eq_true, Bool.not_eq_true', List.any_eq_false] at h
    exact List.nodup_cons.2 ⟨fun hm => h.1 x hm (Nat.beq_refl x), ndB_nodup h.2⟩
theorem D_at {l' : Array Bool} {ρ : Rg} {L L' : List (Nat × Value)} (hl : (listed == l') = true) (hp : L.Perm L') (hk : ndB (L.map (·.1)) = true) (h : D P n ops Q S f fuel l' (upl ρ L') w) : D P n ops Q S f fuel listed (upl ρ L) w := by
  have e : listed = l' := by simpa using hl
  rw [e, upl_perm ρ hp (ndB_nodup hk)]
  exact h
theorem D_abs (h : ∀ (G : Nat → Array Bool → Rg → World → Prop) (ρ' : Rg), G = D P n ops Q S f → ρ' = ρ → G fuel listed ρ' w) : D P n ops Q S f fuel listed ρ w := h _ _ rfl rfl
end
end Go.Sl
