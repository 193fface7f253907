/- The shallow logic, part 12: numbers without a sign, copies; a search's state. No program in sight. -/
import Derived.Test.YtlgdffofhnfedaaGreatR
import Derived.Laws.CopyRow
import Derived.ScopeJumps
import Derived.OrdersIn
set_option linter.unusedVariables false
set_option linter.unusedSimpArgs false
namespace Go.Sl
open Go.RowKit
section ops
variable {P : Program} {yl : Bool} {ρ : Rg} {w w0 : World} {L L' : List HP} {ty : TypeId} {K : Value → World → Prop} {Z : List PanicEntry → World → Prop} {x y z : Operand}
theorem wrapu_of {n : Int} (h0 : 0 ≤ n) (h1 : n ≤ 18446744073709551615) : IntKind.u64.wrap n = n := by
  have : IntKind.u64.wrap n = n % 18446744073709551616 := by rfl
  rw [this]; omega
theorem E_andu {a b : Nat} {xt yt : TypeId} (hx : ρ.ev x = .int .u64 (a : Int)) (hy : ρ.ev y = .int .u64 (b : Int)) (ha : a < 18446744073709551616) (hb : b < 18446744073709551616) (k : K (.int .u64 ((a &&& b : Nat) : Int)) w) :
    E P yl ρ w (.binOp .and xt x y yt) ty K Z := by
  refine E_of_run ?_ k
  have h1 : (BitVec.ofInt 64 (a : Int) &&& BitVec.ofInt 64 (b : Int)).toNat = a &&& b := by
    rw [BitVec.toNat_and, toNat_ofInt (by omega), toNat_ofInt (by omega)]
  have h2 : a &&& b < 18446744073709551616 := Nat.lt_of_le_of_lt Nat.and_le_left ha
  rw [BitVec.ofInt_natCast, BitVec.ofInt_natCast] at h1
  simp only [execOp, eqGuard, hx, hy, binOp, Op.intBits, IntKind.bits, ne_eq, not_true_eq_false, if_false]
  simp [-BitVec.toNat_and]
  exact (congrArg (fun n : Nat => IntKind.u64.wrap (n : Int)) h1).trans (wrapu_of (by omega) (by omega))
theorem E_shru {a b : Nat} {xt yt : TypeId} {yk : IntKind} (hx : ρ.ev x = .int .u64 (a : Int)) (hy : ρ.ev y = .int yk (b : Int)) (h1 : b < 63) (k : K (.int .u64 ((a / 2 ^ b : Nat) : Int)) w) :
    E P yl ρ w (.binOp .shr xt x y yt) ty K Z := by
  refine E_of_run ?_ k
  have hn : ¬ (b : Int) < 0 := by omega
  have hm : min b 64 = b := by omega
  have hf : (a : Int).fdiv (2 ^ b) = ((a / 2 ^ b : Nat) : Int) := by
    rw [Int.fdiv_eq_ediv_of_nonneg _ (Int.pow_nonneg (by omega))]
    norm_cast
  simp [execOp, eqGuard, hx, hy, binOp, Op.shift, hn, IntKind.bits, hm, hf]
theorem E_mulu {a b : Int} {xt yt : TypeId} (hx : ρ.ev x = .int .u64 a) (hy : ρ.ev y = .int .u64 b) (h : 0 ≤ a * b ∧ a * b ≤ 18446744073709551615) (k : K (.int .u64 (a * b)) w) : E P yl ρ w (.binOp .mul xt x y yt) ty K Z :=
  E_arith hx hy (.inr (.inr ⟨rfl, rfl⟩)) (by rw [wrapu_of h.1 h.2]; exact k)
theorem E_addu {a b : Int} {xt yt : TypeId} (hx : ρ.ev x = .int .u64 a) (hy : ρ.ev y = .int .u64 b) (h : 0 ≤ a + b ∧ a + b ≤ 18446744073709551615) (k : K (.int .u64 (a + b)) w) : E P yl ρ w (.binOp .add xt x y yt) ty K Z :=
  E_arith hx hy (.inl ⟨rfl, rfl⟩) (by rw [wrapu_of h.1 h.2]; exact k)
theorem E_convi {s d : TypeId} {ks : IntKind} [hs : Ik P s ks] [hd : Ik P d .i64] {a : Nat} (hx : ρ.ev x = .int ks a) (h : a < 9223372036854775808) (k : K (.int .i64 a) w) : E P yl ρ w (.convert s d x) ty K Z :=
  E_conv hx (by rw [wrap64_of (by omega) (by omega)]; exact k)
theorem E_addc {a b : Int} (c : Int) {xt yt : TypeId} (hx : ρ.ev x = .int .i64 a) (hy : ρ.ev y = .int .i64 b) (e : a + b = c) (h : -9223372036854775808 ≤ c ∧ c ≤ 9223372036854775807) (k : K (.int .i64 c) w) : E P yl ρ w (.binOp .add xt x y yt) ty K Z :=
  E_add hx hy (by rw [e]; exact h) (by rw [e]; exact k)
theorem E_subc {a b : Int} (c : Int) {xt yt : TypeId} (hx : ρ.ev x = .int .i64 a) (hy : ρ.ev y = .int .i64 b) (e : a - b = c) (h : -9223372036854775808 ≤ c ∧ c ≤ 9223372036854775807) (k : K (.int .i64 c) w) : E P yl ρ w (.binOp .sub xt x y yt) ty K Z :=
  E_sub hx hy (by rw [e]; exact h) (by rw [e]; exact k)
theorem E_muluc {a b : Int} (c : Int) {xt yt : TypeId} (hx : ρ.ev x = .int .u64 a) (hy : ρ.ev y = .int .u64 b) (e : a * b = c) (h : 0 ≤ c ∧ c ≤ 18446744073709551615) (k : K (.int .u64 c) w) : E P yl ρ w (.binOp .mul xt x y yt) ty K Z :=
  E_mulu hx hy (by rw [e]; exact h) (by rw [e]; exact k)
theorem E_adduc {a b : Int} (c : Int) {xt yt : TypeId} (hx : ρ.ev x = .int .u64 a) (hy : ρ.ev y = .int .u64 b) (e : a + b = c) (h : 0 ≤ c ∧ c ≤ 18446744073709551615) (k : K (.int .u64 c) w) : E P yl ρ w (.binOp .add xt x y yt) ty K Z :=
  E_addu hx hy (by rw [e]; exact h) (by rw [e]; exact k)
theorem E_anduc {a b : Nat} (c : Nat) {xt yt : TypeId} (hx : ρ.ev x = .int .u64 (a : Int)) (hy : ρ.ev y = .int .u64 (b : Int)) (ha : a < 18446744073709551616) (hb : b < 18446744073709551616) (e : a &&& b = c) (k : K (.int .u64 (c : Int)) w) :
    E P yl ρ w (.binOp .and xt x y yt) ty K Z := E_andu hx hy ha hb (by rw [e]; exact k)
theorem E_shruc {a b : Nat} (c : Nat) {xt yt : TypeId} {yk : IntKind} (hx : ρ.ev x = .int .u64 (a : Int)) (hy : ρ.ev y = .int yk (b : Int)) (h1 : b < 63) (e : a / 2 ^ b = c) (k : K (.int .u64 (c : Int)) w) :
    E P yl ρ w (.binOp .shr xt x y yt) ty K Z := E_shru hx hy h1 (by rw [e]; exact k)
theorem E_makec {t e by_ : Nat} [hs : St P t e 1 by_] {zv : Value} [hz : Zr P e [zv]] (l c : Nat) {kl kc : IntKind} (H : Loc w0 w L) (hx : ρ.ev x = .int kl l) (hy : ρ.ev y = .int kc c) (hlc : l ≤ c) (hb : by_ * c ≤ 281474976710656) (hc : c ≤ 9223372036854775807)
    (k : ∀ w' b, Loc w0 w' (cl b e (List.replicate c zv) :: L) → K (.slice (some ⟨b, 0, none⟩) l c) w') : E P yl ρ w (.makeSlice t x y) ty K Z :=
  E_make H hx hy (by omega) (by omega) (by rw [← Int.natCast_mul]; omega) (by omega) k
theorem E_copy {t e by_ : Nat} {st : TypeId} [hs : St P t e 1 by_] {b o dl dc : Nat} {bt : TypeId} {cs : List Value} [hk : Pk L b bt cs L'] (H : Loc w0 w L) (hx : ρ.ev x = .slice (some ⟨b, o, none⟩) dl dc) {ad : Addr} {sl sc : Nat} (hy : ρ.ev y = .slice (some ad) sl sc)
    {vs : List Value} (hn : vs.length = min sl dl) (hsrc : ∀ j v, vs[j]? = some v → w.cell? (ad.add j) = some v) (hfit : o + vs.length ≤ cs.length) (h1 : vs.all (·.oneCell') = true)
    (k : ∀ w', Loc w0 w' (cl b bt (cs.take o ++ vs ++ cs.drop (o + vs.length)) :: L') → K (.int .i64 vs.length) w') :
    E P yl ρ w (.call { callee := .builtin .copy, args := #[x, y], argTypes := #[t, st] }) ty K Z := by
  obtain ⟨hu, i, hi, hsz, hby⟩ := hs.inf
  have hg := (H.perm hk.perm).get
  have hr := run_copy_row (P := P) w t st ty e b o dl dc ad sl sc cs.toArray bt vs hu (by simp [hi, hsz]) hg (by rw [hn]) hsrc (by simpa using hfit) (fun v hv => List.all_eq_true.1 h1 v hv)
  have e' : (execOp ρ.ev ⟨none, .call { callee := .builtin .copy, args := #[x, y], argTypes := #[t, st] }, ty, "", #[], none⟩).run P w = .ok (.value (goInt vs.length)) (w.setRow b (cs.take o ++ vs ++ cs.drop (o + vs.length)).toArray) := by
    simp [execOp, resolve, invoke, builtin, hx, hy, hr]
  unfold E; rw [e']
  exact k _ (setRow_loc H)
theorem E_sliceC {t e by_ : Nat} [hs : St P t e 1 by_] {b o len cap : Nat} {lo : Operand} {l : Nat} (hx : ρ.ev x = .slice (some ⟨b, o, none⟩) len cap) (hl : ρ.ev lo = .int .i64 (l : Int)) (h1 : l < len) (h2 : len ≤ cap) (k : K (.slice (some ⟨b, o + l, none⟩) (len - l) (cap - l)) w) :
    E P yl ρ w (.slice t x (some lo) none none) ty K Z := by
  refine E_slice (l := l) (h := len) hx hl rfl (by omega) h2 ?_
  rw [if_neg (by omega)]
  simp only [Option.map_some, Nat.mul_one, add_plain]
  exact k
theorem E_sliceH {t e by_ : Nat} [hs : St P t e 1 by_] {a : Addr} {len cap : Nat} {hi : Operand} {h : Nat} (hx : ρ.ev x = .slice (some a) len cap) (hl : ρ.ev hi = .int .i64 (h : Int)) (h2 : h ≤ cap) (k : K (.slice (some a) h cap) w) :
    E P yl ρ w (.slice t x none (some hi) none) ty K Z := by
  refine E_slice (l := 0) (h := h) hx rfl hl (by omega) h2 ?_
  have : (if cap = 0 then some a else Option.map (fun x => x.add (0 * 1)) (some a)) = some a := by
    split
    · rfl
    · simp [Addr.add]
  rw [this]
  exact k
theorem E_buildA0 {t len e sz : Nat} [hs : At P t len e sz] {zs : List Value} [hz : Zr P t zs] (k : K (.agg zs.toArray) w) : E P yl ρ w (.build t #[]) ty K Z := by
  obtain ⟨v, hv, hr⟩ := run_zeroValue' (P := P) (t := t) (zs := zs)
  obtain ⟨hu, inf, hinf, hsz⟩ := hs.inf
  refine E_of_run ?_ k
  have h3 : v.cells = zs.toArray := by rw [← hv]
  simp [execOp, Instr.build, hr, run_underlying hu, run_sizeOf' hinf, h3, Instr.fill]
theorem E_subW {a b : Int} {xt yt : TypeId} (hx : ρ.ev x = .int .i64 a) (hy : ρ.ev y = .int .i64 b) (k : K (.int .i64 (IntKind.i64.wrap (a - b))) w) : E P yl ρ w (.binOp .sub xt x y yt) ty K Z :=
  E_arith hx hy (.inr (.inl ⟨rfl, rfl⟩)) k
theorem E_append0s {α : Type} {r : World → Value → α → Prop} [OneC r] {t e by_ : Nat} [hs : St P t e 1 by_] {zv : Value} [hz : Zr P e [zv]] {v : Value} {xs : List α} (H : Loc w0 w L) (hr : RdS r w v xs) (hx : ρ.ev x = .slice none 0 0) (hy : ρ.ev y = v) (hb : xs.length * by_ ≤ 140737488355328) (hc : xs.length ≤ 9223372036854775807)
    (k : ∀ w' v' us, Els r w us xs → Loc w0 w' (row e 1 v' xs.length us :: L) → K v' w') : E P yl ρ w (.call { callee := .builtin .append, args := #[x, y], argTypes := #[t, t] }) ty K Z := by
  obtain ⟨us, hE, A, c, rfl, h1, h2, h3⟩ := hr.els
  refine E_append_rd (v := .slice none 0 0) (n := 0) (xs := []) (news := us) (nilRow e 1 H) hx hy hE.1 h3 hE.one (by rw [Nat.zero_add]; exact hb) (by omega) fun w' v' H' => ?_
  rw [Nat.zero_add, List.nil_append] at H'
  exact k w' v' us hE H'
theorem E_append0 {t e by_ : Nat} [hs : St P t e 1 by_] {zv : Value} [hz : Zr P e [zv]] {v : Value} {xs : List Int} (H : Loc w0 w L) (hr : RdI w v xs) (hx : ρ.ev x = .slice none 0 0) (hy : ρ.ev y = v) (hb : xs.length * by_ ≤ 140737488355328) (hc : xs.length ≤ 9223372036854775807)
    (k : ∀ w' v', Loc w0 w' (row e 1 v' xs.length (ints .i64 xs) :: L) → K v' w') : E P yl ρ w (.call { callee := .builtin .append, args := #[x, y], argTypes := #[t, t] }) ty K Z :=
  E_append0s H hr hx hy hb hc fun w' v' us hE H' => k w' v' (by rw [hE.ints_eq] at H'; exact H')
theorem E_loadp {t : TypeId} [Sc P t] {b o : Nat} {bt : TypeId} {cs : List Value} [Pk L b bt cs L'] (j : Nat) (v : Value) (H : Loc w0 w L) (hp : ρ.ev x = .pointer (some ⟨b, o, none⟩)) (ho : o = j) (hv : cs[j]? = some v) (k : K v w) : E P yl ρ w (.load t x) ty K Z :=
  E_load H hp (by rw [ho]; exact hv) k
theorem E_storep {t : TypeId} [hs : Sc P t] {b o : Nat} {bt : TypeId} {cs : List Value} [hk : Pk L b bt cs L'] (j : Nat) (v : Value) (cs' : List Value) (H : Loc w0 w L) (hp : ρ.ev x = .pointer (some ⟨b, o, none⟩)) (ho : o = j) (hy : ρ.ev y = v) (h1 : v.oneCell' = true)
    (hj : j < cs.length) (hc : cs.set j v = cs') (k : ∀ w', Loc w0 w' (cl b bt cs' :: L') → K undef w') : E P yl ρ w (.store t x y) ty K Z :=
  E_store H hp hy h1 (by omega) (fun w' H' => k w' (by rw [ho, hc] at H'; exact H'))
end ops
def srC (gv hv wv : Value) (by_ hold : Nat → Int) : List Value := gv :: hv :: wv :: (tint 8 by_ ++ tint 8 hold)
section
variable {gv hv wv : Value} {by_ hold : Nat → Int} {k : Nat}
theorem srC_by (h : k < 8) : (srC gv hv wv by_ hold)[3 + k]? = some (.int .i64 (by_ k)) := by
  rw [show 3 + k = k + 1 + 1 + 1 by omega]
  simp only [srC, List.getElem?_cons_succ]
  rw [List.getElem?_append_left (by simp [tint, tab]; exact h)]
  exact tint_get h
theorem srC_hold (h : k < 8) : (srC gv hv wv by_ hold)[11 + k]? = some (.int .i64 (hold k)) := by
  rw [show 11 + k = (k + 8) + 1 + 1 + 1 by omega]
  simp only [srC, List.getElem?_cons_succ]
  rw [List.getElem?_append_right (by simp [tint, tab])]
  have : k + 8 - (tint 8 by_).length = k := by simp [tint, tab]
  rw [this]
  exact tint_get h
theorem srC_set_by (h : k < 8) (v : Int) : (srC gv hv wv by_ hold).set (3 + k) (.int .i64 v) = srC gv hv wv (upd by_ k v) hold := by
  rw [show 3 + k = k + 1 + 1 + 1 by omega]
  simp only [srC, List.set_cons_succ]
  rw [List.set_append_left _ _ (by simp [tint, tab]; exact h), tint_set]
theorem srC_set_hold (h : k < 8) (v : Int) : (srC gv hv wv by_ hold).set (11 + k) (.int .i64 v) = srC gv hv wv by_ (upd hold k v) := by
  rw [show 11 + k = (k + 8) + 1 + 1 + 1 by omega]
  simp only [srC, List.set_cons_succ]
  rw [List.set_append_right _ _ (by simp [tint, tab])]
  have : k + 8 - (tint 8 by_).length = k := by simp [tint, tab]
  rw [this, tint_set]
theorem srC_set_w (v : Value) : (srC gv hv wv by_ hold).set 2 v = srC gv hv v by_ hold := rfl
@[simp] theorem srC_len : (srC gv hv wv by_ hold).length = 19 := by simp [srC, tint, tab]
end
def jmp (l : Nat) (J : Rg → World → Prop) (Q : Post) : Post
  | .goto l', ρ, w => l' = l ∧ J ρ w
  | e, ρ, w => Q e ρ w
instance (l : Nat) (J : Rg → World → Prop) (Q : Post) [h : PanOk Q] : PanOk (jmp l J Q) := ⟨fun c ρ ρ' w e hq => h.h c ρ ρ' w e hq⟩
theorem jmp_ret {l : Nat} {J : Rg → World → Prop} {Q : Post} {ρ : Rg} {w : World} (h : Q .ret ρ w) : jmp l J Q .ret ρ w := h
theorem jmp_normal {l : Nat} {J : Rg → World → Prop} {Q : Post} {ρ : Rg} {w : World} (h : Q .normal ρ w) : jmp l J Q .normal ρ w := h
theorem jmp_goto {l : Nat} {J : Rg → World → Prop} {Q : Post} {ρ : Rg} {w : World} (h : J ρ w) : jmp l J Q (.goto l) ρ w := ⟨rfl, h⟩
theorem C_jump {P : Program} {n : Nat} {c rest : Code} {Q : Post} {ρ : Rg} {w : World} (l : Nat) (J : Rg → World → Prop) (hf : findLabel c l = some rest) (first : C P none n c (jmp l J Q) ρ w)
    (pass : ∀ ρ w, J ρ w → C P none n rest (jmp l (fun _ _ => False) Q) ρ w) : C P none n (.scope c) Q ρ w := by
  intro a ha
  refine wpIn_wide.2 (wp_scope_jumps l (fun a w => ∃ ρ, Is n a ρ ∧ J ρ w) (fun _ _ => 0) hf ?_ ?_)
  · refine Code.wp_mono ?_ (wpIn_wide.1 (first a ha))
    rintro e a' w' ⟨ρ', hi, hq⟩
    cases e with
    | goto l' => exact ⟨hq.1, ρ', hi, hq.2⟩
    | normal => exact ⟨ρ', hi, hq⟩
    | ret => exact ⟨ρ', hi, hq⟩
    | panic ch => exact ⟨ρ', hi, hq⟩
    | exit id => exact ⟨ρ', hi, hq⟩
    | outgrown => exact ⟨ρ', hi, hq⟩
  · rintro a1 w1 ⟨ρ1, hi1, hJ⟩
    refine Code.wp_mono ?_ (wpIn_wide.1 (pass ρ1 w1 hJ a1 hi1))
    rintro e a' w' ⟨ρ', hi, hq⟩
    cases e with
    | goto l' => exact hq.2.elim
    | normal => exact ⟨ρ', hi, hq⟩
    | ret => exact ⟨ρ', hi, hq⟩
    | panic ch => exact ⟨ρ', hi, hq⟩
    | exit id => exact ⟨ρ', hi, hq⟩
    | outgrown => exact ⟨ρ', hi, hq⟩
theorem C_jumpr {P : Program} {n : Nat} {c rest : Code} {Q : Post} {ρ : Rg} {w : World} (l : Nat) (regs : List Nat) (M : List Value → World → Prop) {ds : List Deferred} (hf : findLabel c l = some rest)
    (first : C P none n c (jmp l (fun ρ' w' => ρ'.d = ds ∧ M (regs.map ρ'.r) w') Q) ρ w)
    (pass : ∀ vs ρ₀ w, ρ₀.d = ds → M vs w → C P none n rest (jmp l (fun _ _ => False) Q) (ups ρ₀ regs vs) w) : C P none n (.scope c) Q ρ w :=
  C_jump l _ hf first (fun ρ' w' ⟨hd, hm⟩ => by have := pass _ ρ' w' hd hm; rwa [ups_same] at this)
theorem thn_goto {K : Rg → World → Prop} {Q : Post} {l : Nat} {ρ : Rg} {w : World} (h : Q (.goto l) ρ w) : thn K Q (.goto l) ρ w := h
theorem inB_goto {id : Nat} {Q : Post} {l : Nat} {ρ : Rg} {w : World} (h : Q (.goto l) ρ w) : inB id Q (.goto l) ρ w := h
class Pz (L L' : List HP) (R : outParam (List HP)) : Prop where
  perm : L.Perm (L' ++ R)
instance (priority := 1100) Pz.nil (L : List HP) : Pz L [] L := ⟨List.Perm.refl _⟩
instance (priority := 1000) Pz.cons (L L1 L2 R : List HP) (A : HP) [h1 : Pq L A L1] [h2 : Pz L1 L2 R] : Pz L (A :: L2) R := ⟨h1.perm.trans (.cons _ h2.perm)⟩
instance (priority := 500) Pz.here (T : List HP) : Pz T T [] := ⟨by rw [List.append_nil]⟩
instance (priority := 400) Pz.there (A : HP) (L T R : List HP) [h : Pz L T R] : Pz (A :: L) T (A :: R) := ⟨(List.Perm.cons _ h.perm).trans List.perm_middle.symm⟩
theorem Loc.al {w0 w : World} {L L' R : List HP} [hz : Pz L L' R] (h : Loc w0 w L) : Loc w0 w L' := (h.perm hz.perm).upto
theorem Loc.to {w0 w : World} {L R : List HP} (L' : List HP) [hz : Pz L L' R] (h : Loc w0 w L) : Loc w0 w (L' ++ R) := h.perm hz.perm
theorem Loc.sw {w0 w : World} {T F : List HP} (A : List HP) (h : Loc w0 w (A ++ (T ++ F))) : Loc w0 w (A ++ (F ++ T)) := h.perm (List.Perm.append_left A List.perm_append_comm)
theorem Loc.call4 {w0 w w' : World} {A B C D : HP} {L : List HP} (h : Loc w0 w L) (h' : Loc w w' [A, B, C, D]) : Loc w0 w' (A :: B :: C :: D :: L) := h.call h'
class NoOut (Q : Post) : Prop where h : ∀ ρ w, ¬ Q .outgrown ρ w
instance (K : Rg → World → Prop) (Q : Post) [h : NoOut Q] : NoOut (thn K Q) := ⟨fun ρ w hq => h.h ρ w hq⟩
instance (id : Nat) (Q : Post) [h : NoOut Q] : NoOut (inB id Q) := ⟨fun ρ w hq => h.h ρ w hq⟩
instance (Q : Post) [h : NoOut Q] : NoOut (noG Q) := ⟨fun ρ w hq => h.h ρ w hq⟩
instance (l : Nat) (J : Rg → World → Prop) (Q : Post) [h : NoOut Q] : NoOut (jmp l J Q) := ⟨fun ρ w hq => h.h ρ w hq⟩
instance (P : Program) (fn : Func) (Rt : Ending → World → Prop) : NoOut (bodyQ P fn Rt) := ⟨fun _ _ hq => hq⟩
instance (P : Program) (fn : Func) (Rt : Ending → World → Prop) : NoOut (bodyQM P fn Rt) := ⟨fun _ _ hq => hq⟩
instance (w0 : World) (J : List (List Value) → List HP → Prop) (JR : Code → List (List Value) → List HP → Prop) (hs : List (List Value)) (X F : List HP) : NoOut (roundQ w0 J JR hs X F) := ⟨fun _ _ hq => hq⟩
theorem wpOpIn_of {P : Program} {rd : Option Nat} {ops : Array Oper} {Q : Exit → Act → World → Prop} (hno : ¬ LetsOut Q) (hnd : ∀ (i : Nat) (o : Oper), ops[i]? = some o → notDefer o.op = true) {i : Nat} {K : Act → World → Prop} {a : Act} {w : World} (h : wpOp P ops Q i K a w) : wpOpIn (FW rd) 0 P ops Q i K a w := by
  unfold wpOp at h
  unfold wpOpIn
  cases ho : ops[i]? with
  | none => rw [ho] at h; exact h
  | some o =>
    rw [ho] at h
    dsimp only at h ⊢
    split
    · rename_i hw
      rw [if_pos hw] at h
      have h1 := h.resolve_right (fun h => hno h.2)
      refine ⟨fun _ _ => trivial, ?_⟩
      unfold Oper.wp at h1
      rw [Oper.semAt_eq _ _ _ (notDefer_ne (hnd i o ho))]
      have hd : (FW rd).depth.isSome = true → 1 ≤ 0 := fun h => by simp [FW, Fence.wide] at h
      cases hr : (execOp a.eval o).run P w with
      | ok x w' =>
        rw [hr] at h1
        cases x <;> first
          | exact h1
          | exact h1.elim
          | (refine ⟨hd, callsIn_rd (Calls.mono h1 ?_)⟩
             intro e w'' he
             cases e <;> exact he)
          | (refine ⟨hd, fun c cs _ => ?_⟩
             obtain ⟨v, w'', r, s⟩ := h1 c cs
             exact ⟨v, w'', r, (stepsIn_wide).2 s⟩)
      | halt x w' =>
        rw [hr] at h1
        cases x <;> first
          | exact h1
          | exact h1.elim
    · rename_i hw
      rw [if_neg hw] at h
      exact ⟨fun _ _ => trivial, h⟩
theorem wpAnyIn_of {P : Program} {rd : Option Nat} {ops : Array Oper} {Q : Exit → Act → World → Prop} (hno : ¬ LetsOut Q) (hnd : ∀ (i : Nat) (o : Oper), ops[i]? = some o → notDefer o.op = true) : ∀ (fuel : Nat) (listed : Array Bool) (a : Act) (w : World), wpAny P .any ops Q fuel listed a w → wpAnyIn (FW rd) 0 P .any ops Q fuel listed a w
  | 0, _, _, _, h => h
  | fuel + 1, listed, a, w, h => ⟨h.1, fun i hi => wpOpIn_mono (fun a' w' h' => wpAnyIn_of hno hnd fuel _ a' w' h') (wpOpIn_of hno hnd (h.2 i hi))⟩
theorem C_drawr {P : Program} {rd : Option Nat} {n : Nat} {ops : List Oper} {Q : Post} {ρ : Rg} {w : World} {id : Nat} [hno : NoOut Q] (f : List Nat) (S : World → Prop) (hnd : ops.all (fun o => notDefer o.op) = true) (hm : P.follows .mixedOrders = true)
    (h : D P n ops Q S f ops.length (Array.replicate ops.length false) ρ w.drew) : C P rd n (.region id ops.toArray true) Q ρ w := by
  intro a ha
  refine wpIn_region_any hm ?_
  have h1 := wpAny_of_anyF _ _ _ _ (h a ha)
  have h2 := wpAnyIn_of (rd := rd) (ops := ops.toArray) (Q := lift n Q) (fun ⟨a, w, ρ', _, hq⟩ => hno.h ρ' w hq) (fun i o ho => List.all_eq_true.1 hnd o (List.mem_of_getElem? (by simpa using ho))) _ _ _ _ h1
  simpa using h2
theorem C_drawLr {P : Program} {rd : Option Nat} {n : Nat} {ops : List Oper} {Q : Post} {ρ : Rg} {w w0 : World} {L : List HP} {id : Nat} [NoOut Q] (f : List Nat) (H : Loc w0 w L) (hnd : ops.all (fun o => notDefer o.op) = true) (hm : P.follows .mixedOrders = true)
    (h : ∀ w', Loc w0 w' L → D P n ops Q (fun w' => Loc w0 w' L) f ops.length (Array.replicate ops.length false) ρ w') : C P rd n (.region id ops.toArray true) Q ρ w :=
  C_drawr f _ hnd hm (h _ H.drew)
theorem yielded_undef {n : Nat} {a : Act} {ρ : Rg} (ha : Is n a ρ) {ops : List Oper} {j t : Nat} (hj : guardSlot ops j = some t) (hb : ρ.r t = undef) : yielded ops.toArray a.tmps j = none := by
  have h1 := ha.reg t
  rw [hb] at h1
  unfold guardSlot at hj
  unfold yielded
  simp only [List.getElem?_toArray, hj, Option.bind_some]
  cases hx : a.tmps[t]? with
  | none => rfl
  | some v => rw [Array.getD_eq_getD_getElem?, hx] at h1; simp at h1; subst h1; rfl
theorem R_passu {P : Program} {rd : Option Nat} {n : Nat} {ops : List Oper} {Q : Post} {l : List Oper} {ρ : Rg} {w : World} {d : Option Tmp} {op : Op} {ty : TypeId} {p : String} {af : Array Edge} {j t : Nat} {b : Bool} (hj : guardSlot ops j = some t) (hb : ρ.r t = undef)
    (h : R P rd n ops Q l (ρ.put d undef) w) : R P rd n ops Q (⟨d, op, ty, p, af, some (j, b)⟩ :: l) ρ w := by
  intro hok a ha
  simp only [okL, Bool.and_eq_true] at hok
  unfold wpListIn
  rw [if_neg (by simp [Region.wanted, yielded_undef ha hj hb])]
  exact ⟨fun f _ => trivial, h hok.2 _ (ha.put hok.1 _)⟩
theorem R_pu {P : Program} {rd : Option Nat} {n : Nat} {ops : List Oper} {Q : Post} {l : List Oper} {ρ : Rg} {w : World} {d : Tmp} {op : Op} {ty : TypeId} {p : String} {af : Array Edge} {j t : Nat} {b : Bool} (hj : guardSlot ops j = some t) (hb : ρ.r t = undef)
    (h : R P rd n ops Q l (ρ.up d undef) w) : R P rd n ops Q (⟨some d, op, ty, p, af, some (j, b)⟩ :: l) ρ w := R_passu hj hb h
theorem D_passU (i : Nat) {P : Program} {n : Nat} {ops : List Oper} {Q : Post} {S : World → Prop} {f : List Nat} {fuel : Nat} {listed : Array Bool} {ρ : Rg} {w : World} {d : Tmp} {op : Op} {ty : TypeId} {p : String} {af : Array Edge} {j t : Nat} {b : Bool} [PanOk Q] (ho : ops[i]? = some ⟨some d, op, ty, p, af, some (j, b)⟩) (hj : guardSlot ops j = some t) (hb : ρ.r t = undef) (hok : Nat.ble (d + 1) n = true) (ht : takeTB ops listed i = true)
    (h : D P n ops Q S f fuel (listed.setIfInBounds i true) (ρ.up d undef) w) : D P n ops Q S f (fuel + 1) listed ρ w :=
  D_takenT ho hok ht (fun a ha => .inr ⟨by simp [Region.wanted, yielded_undef ha hj hb], rfl⟩) h
end Go.Sl
