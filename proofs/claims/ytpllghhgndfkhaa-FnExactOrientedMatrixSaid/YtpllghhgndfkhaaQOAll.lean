/- All contracts of this claim. -/
import Derived.Test.YtpllghhgndfkhaaQO0
import Derived.Test.YtpllghhgndfkhaaQO1
import Derived.Test.YtpllghhgndfkhaaQO2
import Derived.Test.YtpllghhgndfkhaaQO3
import Derived.Test.YtpllghhgndfkhaaQO4
