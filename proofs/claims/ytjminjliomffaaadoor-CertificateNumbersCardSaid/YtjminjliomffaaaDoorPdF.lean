import Derived.Test.YtjminjliomffaaaDoorPdA
/- What the kernel reckons: primes from 1999 to 65535. -/
namespace Go.Proofs.YtjminjliomffaaaDoor
namespace Num
set_option maxRecDepth 1000000
theorem big4 : allB 1800 (fun i => bigB (i + 4200)) = true := by decide +kernel
theorem big5 : allB 6000 (fun i => bigB (i + 6000)) = true := by decide +kernel
theorem big6 : allB 28000 (fun i => bigB (i + 12000)) = true := by decide +kernel
theorem big7 : allB 25536 (fun i => bigB (i + 40000)) = true := by decide +kernel
end Num
end Go.Proofs.YtjminjliomffaaaDoor

/- What the kernel reckons: factors of at least 65537. -/
namespace Go.Proofs.YtjminjliomffaaaDoor
namespace Num
set_option maxRecDepth 1000000
theorem case0 : allB 19959 (fun i => caseA (i + 41)) = true := by decide +kernel
theorem case1 : allB 10000 (fun i => caseA (i + 20000)) = true := by decide +kernel
theorem case2 : allB 8000 (fun i => caseA (i + 30000)) = true := by decide +kernel
theorem case3 : allB 7000 (fun i => caseA (i + 38000)) = true := by decide +kernel
end Num
end Go.Proofs.YtjminjliomffaaaDoor

/- What the kernel reckons: factors of at least 65537. -/
namespace Go.Proofs.YtjminjliomffaaaDoor
namespace Num
set_option maxRecDepth 1000000
theorem case4 : allB 6000 (fun i => caseA (i + 45000)) = true := by decide +kernel
theorem case5 : allB 5000 (fun i => caseA (i + 51000)) = true := by decide +kernel
theorem case6 : allB 5000 (fun i => caseA (i + 56000)) = true := by decide +kernel
theorem case7 : allB 4536 (fun i => caseA (i + 61000)) = true := by decide +kernel
end Num
end Go.Proofs.YtjminjliomffaaaDoor
