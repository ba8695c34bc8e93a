import Derived.Test.YtlofnkkokcihnaaLiteAny
namespace Go.Lite

/-- Functions do what was reckoned. -/
theorem calls_ok {C : Cfg} (hC : ∀ t T, C.ty t = some T → tyOf C.P t = some T) (hExt : ExtOK C) (hMix : C.P.follows .mixedOrders = true) (hP : ∀ (f : FuncId) (fn : Func), C.P.funcs[f]? = some fn → fn.body.isSome = true → fn.name ≠ "runtime.NumGoroutine")
    (hR : ∀ (f : FuncId) (fn : Func) (c : Code), C.P.funcs[f]? = some fn → fn.body = some c → regsOk c = true) : ∀ n, CallOK C.P (callA C n) :=
  call_ok hC hExt (fun _ hCall _ _ _ _ _ _ _ _ _ _ _ _ _ _ _ hRM hF hH hok I hr => draw_ok hC hCall hExt hMix hF hRM hH hok I hr) hP hR
end Go.Lite
