/- A store and a batch that are drawn. -/
import Derived.Test.YtjkeapkpdgfhcaaSyE
set_option linter.all false
namespace Go.Proofs.Ytjkeapkpdgfhcaa
open Go.RowKit

/-- a store and a batch were drawn -/
def DrewP (r : SV) (N : List Hp) : Prop :=
  ∃ f l A n c b, n = l.length ∧ l.length ≤ 13 ∧ r = .tup 2 (litF [.agg 2 (litF [.i f, .own 0 (.slice A n c)]), .agg 4 (btF b)]) ∧ N = [.row (.slice A n c) 27 4 l.length (rowF btF l)]
set_option maxHeartbeats 1000000 in
theorem DrawStorePut_c (zs : List Int) (hz : ∀ z ∈ zs, 0 ≤ z ∧ z ≤ 255) (hl : zs.length ≤ 2000000) : SNew Try.prog 6 [.sl 1 zs.length (rowF u8F zs)] DrewP := ⟨fun R => by
  refine SCalls.enter tt_ok Try.func6 (by kernel_rfl) rfl [(900, .cust R)] rfl (argF _) (fun w F v k h => h) (by simp) ?_
  repeat' (first | (with_reducible first | refine HT.seq ?_ | refine HT.block ?_ | refine Br.not ?_) | ((with_reducible first | refine HT.region tt_ok ?_ | refine HT.drawn tt_ok (by kernel_rfl) (by decide +kernel) ?_ | refine HT.drawnL tt_ok (by kernel_rfl) (by decide +kernel) ?_ | refine HT.cond ?_ | refine HT.ret ?_ | refine HT.skip ?_ | refine HT.exit ?_ | refine Br.tt ?_ | refine Br.ff ?_); conv => whnf) | ((with_reducible first | refine Br.dec (fun hc => ?_) (fun hc => ?_) | refine Br.eq (fun hc => ?_) (fun hc => ?_) | refine Br.ne (fun hc => ?_) (fun hc => ?_)) <;> (first | (exfalso; omega) | conv => whnf)) | ((with_reducible first | refine Br.ttE (by decide) ?_ | refine Br.ffE (by decide) ?_ | refine Br.mk (fun hc => ?_) (fun hc => ?_) | refine Chk.mk (by first | omega | with_reducible rfl | (refine ⟨rfl, ?_⟩; omega) | decide | exact ⟨rfl, by omega, by omega, rfl⟩ | exact ⟨by assumption, rfl, by omega, by omega⟩) ?_ | refine Ar.fit (by omega) ?_ | refine Eqv.shr1 ?_ | refine Ar.u64 (by omega) ?_) <;> conv => whnf) | ((first | (refine CallN.new _ (l6Open_c zs hz hl) ?_; rintro r N ⟨g, rfl, rfl⟩) | (refine CallN.turn 102 _ _ rfl (l92Store_c _ _ (by omega)) ?_; rintro r N p' ⟨f, l, A, n, c, hn, rfl, rfl, hl13, rfl⟩) | (refine CallN.turn 102 _ _ rfl (l92Batch_c _ _ (by omega)) ?_; rintro r N p' ⟨⟨b0, b1, b2, b3, hb0, hb1, hb2, hb3, rfl⟩, rfl, rfl⟩)) <;> conv => whnf) | (with_reducible exact trivial) | ((with_reducible refine And.intro ?_ ?_) <;> conv => whnf) | (intro gn; conv => whnf))
  exact Fin.row (by repeat (first | exact List.Sublist.refl _ | refine List.Sublist.cons_cons _ ?_ | refine List.Sublist.cons _ ?_)) rfl (fun _ _ _ _ => rfl) ⟨f, l, A, n, c, ⟨b0, b1, b2, b3⟩, hn, hl13, rfl, rfl⟩⟩
end Go.Proofs.Ytjkeapkpdgfhcaa
