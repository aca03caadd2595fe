/- Lists of numbers in memory. No program in sight. -/
import Derived.Test.YtogopcejapklgaaGreatDoorBunM
import Derived.Test.YtogopcejapklgaaGreatDoorRows
import Derived.Laws.OwnMore
namespace Go.Proofs.YtogopcejapklgaaGreatDoor
open Go.RowKit

/-- A list of numbers lies where a slice leads. -/
def IntIn (w : World) (S : Nat → Prop) (a : Option Addr) (n cap : Nat) (l : List Int) : Prop :=
  n = l.length ∧ Sl w S 1 a l.length cap (fun i => [.int .i64 (l[i]?.getD 0)])
namespace IntIn
variable {w w' : World} {S S' : Nat → Prop} {a : Option Addr} {n cap : Nat} {l : List Int}
theorem keep (h : IntIn w S a n cap l) (hk : ∀ b o, S b → w'.cell? ⟨b, o, none⟩ = w.cell? ⟨b, o, none⟩) : IntIn w' S a n cap l := ⟨h.1, h.2.keep hk⟩
theorem widen (h : IntIn w S a n cap l) (hS : ∀ b, S b → S' b) : IntIn w S' a n cap l := ⟨h.1, h.2.widen hS⟩
theorem at_ (h : IntIn w S a n cap l) (i : Nat) (hi : i < l.length) : ∃ b off, a = some ⟨b, off, none⟩ ∧ S b ∧ w.cell? ⟨b, off + i, none⟩ = some (.int .i64 l[i]) := by
  obtain ⟨b, off, rfl, hb, hc⟩ := h.2.at_ (by omega)
  refine ⟨b, off, rfl, hb, ?_⟩
  have := hc i hi 0 (by omega)
  simpa [hi] using this
theorem nil_ : IntIn w S none 0 0 [] := ⟨rfl, Sl.nil⟩
end IntIn
theorem Kp.ints {W0 w : World} (h : Kp W0 w) {a : Option Addr} {n cap : Nat} {l : List Int} (hx : IntIn W0 (In_ W0) a n cap l) : IntIn w (In_ w) a n cap l := (hx.keep fun b o hb => h.2 b o hb).widen (In_.mono h.1.size)

end Go.Proofs.YtogopcejapklgaaGreatDoor
namespace Go.Proofs.YtogopcejapklgaaGreatDoor
open Go.RowKit

theorem own_at3 {w : World} {B : Nat} {T : TypeId} {sz n : Nat} {v : Value} {xs : List Value} (h : w.ownsRow B T sz v n xs) : ∃ a c, v = .slice a n c := by
  obtain ⟨_, h⟩ := h
  rcases h with ⟨rfl, rfl⟩ | ⟨g, cap, cur, rfl, _⟩
  · exact ⟨_, _, rfl⟩
  · exact ⟨_, _, rfl⟩
theorem own_down3 {w : World} {B B' : Nat} {T : TypeId} {sz n : Nat} {v : Value} {xs : List Value} (h : w.ownsRow B T sz v n xs) (hB : B' ≤ B) : w.ownsRow B' T sz v n xs := by
  obtain ⟨h0, h⟩ := h
  refine ⟨h0, ?_⟩
  rcases h with h | ⟨g, cap, cur, h1, h2, h3⟩
  · exact .inl h
  · exact .inr ⟨g, cap, cur, h1, Nat.le_trans hB h2, h3⟩

theorem i6_info : (Tryz.prog.info? 3).map (fun i => (i.zero, i.size, i.bytes)) = some (some (.int .i64 0), 1, 8) := by kernel_rfl

/-- append of numbers onto a row of the call's own. -/
theorem list_i6 {ops : Array Oper} {rest : List Oper} {o : Oper} {a : Act} {w : World} {base : Nat} {Q : Exit → Act → World → Prop} (s x : Operand) (v : Value) (n : Nat) (xs : List Value) (m : Nat) (news : List Value)
    (hgd : o.guard = none) (ho : o.op = .call { callee := .builtin .append, args := #[s, x], argTypes := #[66, 66] })
    (hsv : a.eval s = v) (hown : w.ownsRow base 3 1 v n xs) (hsrc : ∃ A c, a.eval x = .slice A m c ∧ SrcAt w 1 A m news) (h1 : ∀ u ∈ news, u.oneCell' = true) (hb : n + m ≤ 100000000) (hbase : base ≤ w.heap.size)
    (h : ∀ v' w', w'.ownsRow base 3 1 v' (n + m) (xs ++ news) → w.grownBy w' v.ownBlock → (v'.ownBlock = v.ownBlock ∨ v'.ownBlock = some w.heap.size) → wpList Tryz.prog ops Q rest (a.put o.dst v') w') :
    wpList Tryz.prog ops Q (o :: rest) a w := by
  obtain ⟨i0, hi, hz0, hz1, hz2⟩ := info_parts i6_info
  exact list_app hgd s x ho Tryz.underlying66 hi hz0 hz1 hz2 rfl (by decide) v n xs hsv hown m news hsrc h1 (by simp only [maxLen]; omega) (by omega) hbase h
theorem step_i6 {ops : Array Oper} {o : Oper} {a : Act} {w : World} {base : Nat} {K : Act → World → Prop} {Q : Exit → Act → World → Prop} {E : Prop} (s x : Operand) (v : Value) (n : Nat) (xs : List Value) (m : Nat) (news : List Value)
    (hgd : o.guard = none) (ho : o.op = .call { callee := .builtin .append, args := #[s, x], argTypes := #[66, 66] })
    (hsv : a.eval s = v) (hown : w.ownsRow base 3 1 v n xs) (hsrc : ∃ A c, a.eval x = .slice A m c ∧ SrcAt w 1 A m news) (h1 : ∀ u ∈ news, u.oneCell' = true) (hb : n + m ≤ 100000000) (hbase : base ≤ w.heap.size)
    (h : ∀ v' w', w'.ownsRow base 3 1 v' (n + m) (xs ++ news) → w.grownBy w' v.ownBlock → (v'.ownBlock = v.ownBlock ∨ v'.ownBlock = some w.heap.size) → K (a.put o.dst v') w') :
    if Region.wanted o (yielded ops a.tmps) = true then Oper.wp Tryz.prog o a w K Q else E := by
  obtain ⟨i0, hi, hz0, hz1, hz2⟩ := info_parts i6_info
  exact step_app hgd s x ho Tryz.underlying66 hi hz0 hz1 hz2 rfl (by decide) v n xs hsv hown m news hsrc h1 (by simp only [maxLen]; omega) (by omega) hbase h
theorem one_i6 {p : Int} : ∀ u ∈ [Value.int .i64 p], u.oneCell' = true := by
  intro u hu
  simp at hu
  subst hu
  rfl

/-- What has been collected. -/
def NumIs (w : World) (B : Nat) (o : Value) (L : List Int) : Prop := (∃ a n c, o = .slice a n c) ∧ w.ownsRow B 3 1 o L.length (L.map (Value.int .i64))
theorem NumIs.app {w : World} {B : Nat} {v : Value} {L news : List Int} (h : w.ownsRow B 3 1 v (L.length + news.length) (L.map (Value.int .i64) ++ news.map (Value.int .i64))) : NumIs w B v (L ++ news) := by
  obtain ⟨a, c, e⟩ := own_at3 h
  exact ⟨⟨a, _, c, e⟩, by rw [List.length_append, List.map_append]; exact h⟩
theorem NumIs.nil {w : World} {B : Nat} : NumIs w B (.slice none 0 0) [] := ⟨⟨_, _, _, rfl⟩, World.ownsRow_nil _ _ _ _⟩
/-- A row of the call's own that holds numbers is a list of them. -/
theorem IntIn.of_own {w : World} {base : Nat} {v : Value} {l : List Int} (h : w.ownsRow base 3 1 v l.length (l.map (Value.int .i64))) : ∃ a cap, v = .slice a l.length cap ∧ IntIn w (fun b => base ≤ b ∧ b < w.heap.size) a l.length cap l := by
  have h' := h
  obtain ⟨_, h⟩ := h
  rcases h with ⟨rfl, h0⟩ | ⟨g, cap, cur, rfl, hb, hg, hle, hcm, hsz, htk⟩
  · refine ⟨none, 0, by rw [h0], ⟨rfl, by omega, Nat.zero_le _, fun hp => absurd hp (by omega)⟩⟩
  · refine ⟨some ⟨g, 0, none⟩, cap, rfl, rfl, hle, hcm, fun _ => ⟨g, 0, rfl, ⟨hb, (Array.getElem?_eq_some_iff.1 hg).1⟩, fun i hi j hj => ?_⟩⟩
    obtain rfl : j = 0 := by omega
    have := h'.cells (g := g) rfl i (.int .i64 l[i]) (by simp [hi])
    rw [Addr.add_lit] at this
    simpa [hi] using this
end Go.Proofs.YtogopcejapklgaaGreatDoor
