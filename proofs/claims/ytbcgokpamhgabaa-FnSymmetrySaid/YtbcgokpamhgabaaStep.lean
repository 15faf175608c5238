/- append onto a slice of the call's own, where nothing may be appended, at a step of a region that draws its order. No program in sight. -/
import Derived.Deep.AppendLies
import Derived.Test.YtbcgokpamhgabaaMem
set_option linter.unusedVariables false
namespace Go.Proofs.Ytbcgokpamhgabaa
open Go.RowKit Go.Sort

theorem step_append_own {P : Program} (w : World) {ops : Array Oper} {o : Oper} {a : Act} {K : Act → World → Prop} {Q : Exit → Act → World → Prop} {E : Prop} (hgd : o.guard = none) (s x : Operand) (t : TypeId)
    (ho : o.op = .call { callee := .builtin .append, args := #[s, x], argTypes := #[t, t] })
    (base : Nat) (e : TypeId) (i : TypeInfo) (z : Value) (size bytes : Nat) (ht : P.underlying t = some (.slice e)) (hi : P.info? e = some i) (hz : i.zero = some z)
    (hsize : i.size = size) (hby : i.bytes = bytes) (hzs : z.cells.size = size) (hsz : 0 < size)
    (v : Value) (n : Nat) (xs : List Value) (hs : a.eval s = v) (hown : w.ownsRow base e size v n xs)
    (ad : Addr) (m c : Nat) (news : List Value) (hx : a.eval x = .slice (some ad) m c) (hl : news.length = m * size) (hnews : ∀ j u, news[j]? = some u → w.cell? (ad.add j) = some u) (h1 : ∀ u ∈ news, u.oneCell' = true)
    (h63 : n + m ≤ maxLen) (hbytes : (n + m) * bytes ≤ 140737488355328) (hbase : base ≤ w.heap.size)
    (h : ∀ v' w', w'.ownsRow base e size v' (n + m) (xs ++ news) → w.grownBy w' v.ownBlock → (v'.ownBlock = v.ownBlock ∨ v'.ownBlock = some w.heap.size) → K (a.put o.dst v') w') :
    if Region.wanted o (yielded ops a.tmps) = true then Oper.wp P o a w K Q else E := by
  have hw : Region.wanted o (yielded ops a.tmps) = true := by simp [Region.wanted, hgd]
  rw [if_pos hw]
  obtain ⟨v', w', hr, h2, h3, _, h5⟩ := run_append_own_at (P := P) w base t o.type e i z size bytes ht hi hz hsize hby hzs hsz v n xs hown ad m c news hl hnews h1 h63 hbytes hbase
  unfold Oper.wp execOp
  simp only [ho, resolve, invoke, builtin, Sem.run_bind, Sem.run_pure, Result.andThen_ok, List.map_toArray, List.map_cons, List.map_nil, hs, hx, hr]
  exact h v' w' h2 h3 h5

theorem own_cap {w : World} {base : Nat} {e : TypeId} {size n c : Nat} {A : Option Addr} {xs : List Value} (h : w.ownsRow base e size (.slice A n c) n xs) : n ≤ c := by
  rcases h.2 with ⟨hv, h0⟩ | ⟨g, cap, cur, hv, hb, hg, hnc, _⟩
  · omega
  · injection hv with _ _ h3
    omega

/-- Cuts of what a slice value reads as. -/
theorem Rd.front {w : World} {B : Nat} {A : Option Addr} {L : List Ln} (h : Rd w B A (flat L)) (k : Nat) : Rd w B A (flat (L.take k)) := fun hn => by
  have hk : flat L = flat (L.take k) ++ flat (L.drop k) := by rw [← flat_append, List.take_append_drop]
  obtain ⟨b, off, e, hb, hc⟩ := h (by rw [hk, List.length_append]; omega)
  exact ⟨b, off, e, hb, fun j u hu => hc j u (by rw [hk, List.getElem?_append_left (List.getElem?_eq_some_iff.1 hu).1]; exact hu)⟩
theorem Rd.back {w : World} {B b off : Nat} {L : List Ln} (h : Rd w B (some ⟨b, off, none⟩) (flat L)) (k : Nat) : Rd w B (some ⟨b, off + k * 3, none⟩) (flat (L.drop k)) := fun hn => by
  rw [flat_length, List.length_drop] at hn
  obtain ⟨b', off', e, hb, hc⟩ := h (by rw [flat_length]; omega)
  injection e with e
  injection e with e1 e2
  subst e1 e2
  refine ⟨b, off + k * 3, rfl, hb, fun j u hu => ?_⟩
  have hk : flat L = flat (L.take k) ++ flat (L.drop k) := by rw [← flat_append, List.take_append_drop]
  have hl : (flat (L.take k)).length = k * 3 := by rw [flat_length, List.length_take]; omega
  rw [Nat.add_assoc]
  refine hc _ u ?_
  rw [hk, List.getElem?_append_right (by omega), hl, Nat.add_sub_cancel_left]
  exact hu
end Go.Proofs.Ytbcgokpamhgabaa
