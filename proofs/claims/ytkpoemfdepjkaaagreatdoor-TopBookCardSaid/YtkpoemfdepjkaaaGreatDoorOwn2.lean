import Derived.Test.YtkpoemfdepjkaaaGreatDoorBase
import Derived.ArgAppend
import Derived.OwnWalk
open Go
namespace Go.Proofs.YtkpoemfdepjkaaaGreatDoor
/-- append, and WHICH block the answer lies in: the old one, or one that is new -/
theorem wpList_append_own2 {P : Program} {w : World} {ops : Array Oper} {rest : List Oper} {o : Oper} {a : Act} {Q : Exit → Act → World → Prop} (hgd : o.guard = none) (s x : Operand) (t : TypeId)
    (ho : o.op = .call { callee := .builtin .append, args := #[s, x], argTypes := #[t, t] })
    (base : Nat) (e : TypeId) (i : TypeInfo) (z : Value) (bytes : Nat) (ht : P.underlying t = some (.slice e)) (hi : P.info? e = some i) (hz : i.zero = some z)
    (hsize : i.size = 1) (hby : i.bytes = bytes) (hzs : z.cells.size = 1)
    (v : Value) (n : Nat) (xs : List Value) (hs : a.eval s = v) (hown : w.ownsRow base e 1 v n xs)
    (ad : Addr) (m c : Nat) (news : List Value) (hx : a.eval x = .slice (some ad) m c) (hl : news.length = m) (hnews : ∀ j u, news[j]? = some u → w.cell? (ad.add j) = some u) (h1 : ∀ u ∈ news, u.oneCell' = true)
    (h63 : n + m ≤ maxLen) (hbytes : (n + m) * bytes ≤ 140737488355328) (hbase : base ≤ w.heap.size)
    (h : ∀ v' w', w'.ownsRow base e 1 v' (n + m) (xs ++ news) → w.grownBy w' v.ownBlock → (∀ k, v'.ownBlock = some k → v.ownBlock = some k ∨ w.heap.size ≤ k) → wpList P ops Q rest (a.put o.dst v') w') : wpList P ops Q (o :: rest) a w := by
  have up : ∀ {w' : World} {v' : Value} {k : Nat} {ys : List Value}, w'.ownsRow w.heap.size e 1 v' k ys → w'.ownsRow base e 1 v' k ys := by
    intro w' v' k ys hh
    refine ⟨hh.1, ?_⟩
    rcases hh.2 with h | ⟨g, cap, cur, h1, h2, h3⟩
    · exact Or.inl h
    · exact Or.inr ⟨g, cap, cur, h1, by omega, h3⟩
  rcases hown.2 with ⟨rfl, rfl⟩ | ⟨g, cap, cur, rfl, hg, hb, hc1, hc2, hc3, hc4⟩
  · have hx0 : xs = [] := List.eq_nil_of_length_eq_zero (by simpa using hown.1)
    subst hx0
    refine wpList_append_own w hgd s x t ho w.heap.size e i z 1 bytes ht hi hz hsize hby hzs (by decide) _ 0 [] hs (World.ownsRow_nil _ _ _ _) ad m c news hx (by omega) hnews h1 h63 hbytes (Nat.le_refl _) (fun v' w' h2 h3 _ => h v' w' (up h2) h3 (fun k hk => Or.inr (h2.lt k hk).1))
  · by_cases hf : n + m ≤ cap
    · refine wpList_append_fits w hgd s x t ho base e i 1 ht hi hsize g n cap xs hs hown ad m c news hx (by omega) hnews h1 hf (fun w' h2 h3 => h _ w' h2 h3 (fun k hk => Or.inl hk))
    · refine wpList_append_grows w hgd s x t ho e i z 1 bytes ht hi hz hsize hby hzs (by decide) (some ⟨g, 0, none⟩) n cap xs hs (fun hh => by cases hh) hown.1 ?_ ad m c news hx (by omega) hnews h1 (by omega) h63 hbytes ?_
      · intro b hb' j u hj
        cases hb'
        exact hown.cells rfl j u hj
      · intro v' w' h2 h3
        refine h v' w' (up h2) ⟨h3.os, h3.tape, h3.output, h3.size, fun k hk _ => h3.block k hk (by simp)⟩ (fun k hk => Or.inr (h2.lt k hk).1)
end Go.Proofs.YtkpoemfdepjkaaaGreatDoor
